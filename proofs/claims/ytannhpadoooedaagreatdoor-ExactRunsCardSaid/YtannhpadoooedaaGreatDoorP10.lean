/- Texts of this seat, laid together: TxtL, Iter, TxtI, TxtJ, EwC, EwF, Rng, RefS, RwE, ExF, VwC. Each opens with its own remark, which says what it proves, and under which conditions. -/
import Derived.Test.YtannhpadoooedaaGreatDoorP09
import Derived.Test.YtannhpadoooedaaGreatDoorP06
import Derived.Test.YtannhpadoooedaaGreatDoorP04
import Derived.Deep.DeepFit
import Derived.Test.YtannhpadoooedaaGreatDoorP01
import Derived.RangeFuncNested
import Derived.RangeFuncBound
import Derived.RangeFuncCalls
import Derived.RangeFuncLeaves
import Derived.Shelf.Abstract
import Derived.Shelf.RegionOpen
import Derived.OwnWalkIn
import Derived.TacticsInMore
import Derived.LoopNIn
import Derived.LoopIn
import Derived.Deep.Cut
import Derived.Deep.DeepCutAuto
import Derived.Laws.RangeString
import Derived.Lib.OthersKept
import Derived.Maps.AppendAt
import Derived.Test.YtannhpadoooedaaGreatDoorP08
import Derived.Deep.RegionLaw
import Derived.Deep.DrawnRows
import Derived.Test.YtannhpadoooedaaGreatDoorP02
import Derived.Test.YtannhpadoooedaaGreatDoorP07
import Derived.Test.YtannhpadoooedaaGreatDoorP03
set_option linter.unusedVariables false
set_option linter.unusedSimpArgs false
/- limb: Text. -/
namespace Go.Proofs.YtannhpadoooedaaGreatDoor
open Num
open Go.ChangeShapes Go.WideShapes Go.ChangeAt Go.RowKit
set_option linter.unusedVariables false
set_option linter.unusedSimpArgs false
theorem app32l {ops : Array Oper} {rest : List Oper} {o : Oper} {a : Act} {Q : Exit → Act → World → Prop} {w0 wr : World} {v : Value} {L X : List Nat} {t : TypeId} (hgd : o.guard = none) {s x : Operand}
    (ho : o.op = .call { callee := .builtin .append, args := #[s, x], argTypes := #[42, 42] }) (hO : Own32 w0 wr v L) (hs : a.eval s = v)
    {c : Nat} (hx : a.eval x = .slice (some ⟨wr.heap.size, 0, none⟩) X.length c) (hn : L.length + X.length ≤ 1099511627776)
    (h : ∀ v' w', Own32 w0 w' v' (L ++ X) → (∀ (ad : Option Addr) (cd : Nat) (M : List Nat), U32 wr ad cd M → (∀ g f, ad = some ⟨g, f, none⟩ → v.ownBlock ≠ some g) → U32 w' ad cd M) → wpList Tryz.prog ops Q rest (a.put o.dst v') w') : wpList Tryz.prog ops Q (o :: rest) a (wr.alloc (.cells (cel X).toArray t)) := by
  obtain ⟨i, z, hi, hz, hsize, hby, hzs⟩ := el32.info
  refine wpList_append_own _ hgd s x 42 ho w0.heap.size 137 i z 1 4 el32.ht hi hz hsize hby hzs el32.pos v L.length (cel L) hs (hO.1.alloc _) ⟨wr.heap.size, 0, none⟩ X.length c (cel X) hx (by rw [cel_len, Nat.mul_one]) (cells_new wr _ t) (cel_one X) (by unfold maxLen; omega) (by omega) (by have := hO.2.size; simp; omega) ?_
  intro v' w' hown hg _
  have ho : Out (fun k => v.ownBlock = some k) wr w' := ((Out.refl _ wr).alloc _).grown hg fun k hk _ => hk
  exact h v' w' ⟨by rw [cel_app, List.length_append]; exact hown, below_append (wr := wr) (bal hO.2 _) (hO.1.alloc _) hg⟩ fun ad cd M hu hne => hu.okeep ho fun q f e hq => hne q f e hq
theorem Bld.keep {B b : Nat} {l : List UInt8} {w w' : World} (h : Bld B b l w) (hb : Below w.heap.size w w') : Bld B b l w' := by
  have key : ∀ p, Lib.BuilderAt 202 5 B b p (Lib.byteCells l) w → Lib.BuilderAt 202 5 B b p (Lib.byteCells l) w' := by
    rintro p ⟨h1, v, h2, h3, h4⟩
    exact ⟨h1, v, (hb.block b (Array.getElem?_eq_some_iff.1 h2).1).trans h2, own_below (w0 := w) h3 hb, h4⟩
  rcases h with h | h
  · exact .inl (key _ h)
  · exact .inr (key _ h)
theorem Bld.new {w : World} {b : Nat} (hb : b = w.heap.size) : Bld b b [] (w.alloc (.cells #[.pointer none, .slice none 0 0] 202)) := by
  subst hb
  exact .inl ⟨Nat.le_refl _, .slice none 0 0, (MapKept.heap_alloc w _).1, World.ownsRow_nil _ _ _ _, by simp [Value.ownBlock]⟩
theorem pcs_len (k : Nat) : ∀ n, n < 2 ^ k → (pcs n).length ≤ k := by
  induction k with
  | zero => intro n h; obtain rfl : n = 0 := by simpa using h
            rw [pcs_zero]; simp
  | succ k ih =>
    intro n h
    by_cases h0 : 0 < n
    · rw [pcs_pos h0]
      have := ih (n / 1000000000) (by rw [Nat.pow_succ] at h; omega)
      simp; exact this
    · obtain rfl : n = 0 := by omega
      rw [pcs_zero]; simp
theorem pcs_bound {l : List Nat} (hl : Limbs l) (h1 : l.length ≤ 67108865) {P Q : List Nat} (h : pcs (val l) = P ++ Q) : P.length ≤ 2147483680 := by
  have h2 := val_lt hl
  rw [BB_pow] at h2
  have h3 := pcs_len _ _ h2
  rw [h, List.length_append] at h3
  omega
/-- what nine bytes hold when j noughts are left -/
def Z9 (j m p : Nat) : List UInt8 := List.replicate j 0 ++ asc (padD m p)
theorem Z9_len (j m p : Nat) : (Z9 j m p).length = j + m := by simp [Z9, asc_len, padD_len]
theorem rep_set (j : Nat) (T : List UInt8) (d : UInt8) : (List.replicate (j + 1) 0 ++ T).set j d = List.replicate j 0 ++ d :: T := by
  induction j with
  | zero => rfl
  | succ j ih =>
    rw [List.replicate_succ, List.cons_append, List.set_cons_succ, ih]; rfl
theorem Z9_step (j m p : Nat) : (Z9 (j + 1) m p).set j (dig (p / 10 ^ m % 10)) = Z9 j (m + 1) p := by
  unfold Z9
  rw [rep_set, padD_snoc, asc_append]; rfl
theorem Z9_end (p : Nat) : Z9 0 9 p = asc (padD 9 p) := rfl
theorem lowP_top {P : List Nat} {k : Nat} (h : k + 1 = P.length) : lowP (P.drop k) = lowD (P.getD k 0) := by
  have e : P.drop k = [P.getD k 0] := by
    rw [List.drop_eq_getElem_cons (by omega), List.drop_eq_nil_of_le (by omega)]
    simp [List.getElem?_eq_getElem (show k < P.length by omega)]
  rw [e]; rfl
theorem lowP_low {P : List Nat} {k : Nat} (h : k + 1 < P.length) : lowP (P.drop k) = padD 9 (P.getD k 0) ++ lowP (P.drop (k + 1)) := by
  rw [List.drop_eq_getElem_cons (by omega), lowP_cons (by intro h0; have := congrArg List.length h0; simp at this; omega)]
  simp [List.getElem?_eq_getElem (show k < P.length by omega)]
theorem lowP_len : ∀ L : List Nat, (∀ x ∈ L, x < 1000000000) → (lowP L).length ≤ 9 * L.length
  | [], _ => by simp [lowP]
  | [p], h => by
    have := (padD_low 9 p (h p (by simp))).2
    simpa [lowP] using this
  | p :: q :: L, h => by
    have := lowP_len (q :: L) (fun x hx => h x (List.mem_cons_of_mem _ hx))
    rw [lowP_cons (by simp), List.length_append, padD_len]
    simp only [List.length_cons] at this ⊢
    omega
theorem zeroArr9 : ∀ w, (zeroValue 229).run Tryz.prog w = .ok (.agg #[.int .u8 0, .int .u8 0, .int .u8 0, .int .u8 0, .int .u8 0, .int .u8 0, .int .u8 0, .int .u8 0, .int .u8 0]) w := fun w => by kernel_rfl
/-- nine bytes in a block -/
structure Arr9 (w : World) (g : Nat) (Z : List UInt8) : Prop where
  cell : ∀ j, j < 9 → w.cell? ⟨g, j, none⟩ = some (.int .u8 ((Z.getD j 0).toNat : Nat))
  free : ∀ j, w.frozen? ⟨g, j, none⟩ = false
theorem Arr9.new (w : World) (p : Nat) : Arr9 (w.alloc (.cells #[.int .u8 0, .int .u8 0, .int .u8 0, .int .u8 0, .int .u8 0, .int .u8 0, .int .u8 0, .int .u8 0, .int .u8 0] 229)) w.heap.size (Z9 9 0 p) := by
  have hz : ∀ j, (Z9 9 0 p).getD j 0 = 0 := fun j => by
    simp [Z9, asc, padD]
    exact match j with | 0 => rfl | 1 => rfl | 2 => rfl | 3 => rfl | 4 => rfl | 5 => rfl | 6 => rfl | 7 => rfl | 8 => rfl | n + 9 => rfl
  refine ⟨fun j hj => ?_, fun j => by rw [World.frozen?_alloc_at (hn := by simp)]⟩
  rw [hz]
  refine cell_new rfl ?_
  have : j = 0 ∨ j = 1 ∨ j = 2 ∨ j = 3 ∨ j = 4 ∨ j = 5 ∨ j = 6 ∨ j = 7 ∨ j = 8 := by omega
  rcases this with rfl | rfl | rfl | rfl | rfl | rfl | rfl | rfl | rfl <;> rfl
theorem Arr9.set {w : World} {g : Nat} {Z : List UInt8} (h : Arr9 w g Z) (hZ : Z.length = 9) {k : Nat} (hk : k < 9) (x : UInt8) : Arr9 (w.setCell ⟨g, k, none⟩ (.int .u8 (x.toNat : Nat))) g (Z.set k x) := by
  refine ⟨fun j hj => ?_, fun j => by rw [World.frozen?_setCell]; exact h.free j⟩
  by_cases e : k = j
  · subst e
    rw [cell_here (h.cell k hk)]
    simp [hZ, hk]
  · rw [cell_far (h.cell j hj) (by first | (simp; done) | (simp; exact e))]
    simp [List.getElem?_set_ne e]

set_option maxRecDepth 100000 in
set_option maxHeartbeats 8000000 in
theorem limbText_c (a : Option Addr) (ca : Nat) (l : List Nat) (w : World) (ha : U32 w a ca l) (h1 : l.length ≤ 67108865) :
    Calls Tryz.prog 170 #[.slice a l.length ca] w fun e w' => e = .returned (.string ⟨(natTxt (val l)).toArray⟩) ∧ Below w.heap.size w w' := by
  have nc := limbNorm_c a ca l w ha (by omega)
  have HTV := Lib.hid (val_trim l)
  have hTN := trim_nrm l
  have hTl := Nat.le_trans (trim_len l) h1
  have HPL := Lib.hid (show ∀ P Q, pcs (val l) = P ++ Q → P.length ≤ 2147483680 from fun P Q h => pcs_bound ha.2.2.1 h1 h)
  generalize trimL l = T at *
  go_enter Tryz.func170, Tryz.ntmps170
  go_wp2_with fail
  refine nc.mono ?_
  rintro e w0 ⟨⟨a0, rfl, hu0⟩, hb0⟩
  clear nc
  go_wp2
  go_loopg [3, 4] (val T) (fun gk d v wr => ∃ (P : List Nat) (ad : Option Addr) (cd : Nat) (L : List Nat), v = .slice ad L.length cd ∧ U32 wr ad cd L ∧ Nrm L ∧ L.length ≤ 67108865 ∧ gk = val L ∧ Own32 w0 wr d P ∧ pcs (val l) = P ++ pcs (val L))
  case atStart => exact ⟨[], a0, _, T, rfl, hu0, hTN, hTl, rfl, Own32.nil (Below.refl _ _), by rw [HTV.out]; rfl⟩
  case round =>
    obtain ⟨P, ad, cd, L, rfl, hu, hn, hlm, hgk, hO, hP⟩ := hrel
    have HP := Lib.hid (And.intro hgk hP)
    clear hgk hP
    have hPl : P.length ≤ 2147483680 := HPL.out _ _ HP.out.2
    by_cases hL : 0 < L.length
    · have hLz : (0 : Int) < (L.length : Int) := by omega
      have hv0 : 0 < val L := by
        have h1 := nrm_val_pos hn (List.length_pos_iff.1 hL)
        have : 0 < BB ^ (L.length - 1) := Nat.pow_pos BB_pos
        omega
      have dc := fun (W : World) (h : Below wr.heap.size wr W) => divSmallF_c ad cd L 1000000000 W (hu.keep h) (by omega) (by omega) (by unfold BB; omega)
      have HN := Lib.hid (show pcs (val L) = val L % 1000000000 :: pcs (val L / 1000000000) from pcs_pos hv0)
      have HLT := Lib.hid (show val L / 1000000000 < val L by omega)
      have hr9 : val L % 1000000000 < 1000000000 := Nat.mod_lt _ (by omega)
      have HQL := Lib.hid (show ∀ Q : List Nat, Nrm Q → val Q = val L / 1000000000 → Q.length ≤ 67108865 from fun Q hQ hv => by
        refine Nat.le_trans (nrm_len_le (k := L.length) hQ ?_) hlm
        have := val_lt hu.2.2.1
        omega)
      go_wp2_with fail
      refine (dc _ (Below.refl _ _)).mono ?_
      rintro e w2 ⟨⟨u, rfl, hq, hqf⟩, hb2⟩
      have hO2 := hO.below hb2
      have HLT2 := Lib.hid hO.1.lt
      have HQF := Lib.hid hqf
      clear dc hO hu hqf
      obtain ⟨aq, nq, Lq, rfl, rfl, hqu, hqn, hqv⟩ := hq
      have hLqm := HQL.out Lq hqn hqv
      have HV := Lib.hid hqv
      clear hqv
      obtain ⟨r, hr⟩ : ∃ r, r = val L % 1000000000 := ⟨_, rfl⟩
      rw [← hr] at hr9
      have HR := Lib.hid hr
      rw [← hr]
      clear hr
      go_wp2_with (at_builtin; refine app32l (X := [r]) rfl rfl hO2 rfl rfl ?_ ?_; (simp; omega); intro v' w3 hO3 hlim3)
      go_roundg (val L / 1000000000)
      case measure => rw [HP.out.1]; exact HLT.out
      case rel => exact ⟨P ++ [r], aq, _, Lq, rfl, hlim3 aq _ Lq hqu (fun g f e h => by have h1 := (HLT2.out g h).2; have h2 := HQF.out g f _ _ (by rw [e]); omega), hqn, hLqm, HV.out.symm, hO3, by rw [HV.out, HP.out.2, HN.out, HR.out]; simp⟩
    · obtain rfl : L = [] := List.length_eq_zero_iff.1 (by omega)
      have hPN := HP.out.2
      rw [show val [] = 0 from rfl, pcs_zero, List.append_nil] at hPN
      have hB2 := bthen hb0 hO.2
      by_cases hP0 : P = []
      · subst hP0
        have hN0 : val l = 0 := by
          apply Nat.eq_zero_of_not_pos; intro h
          exact pcs_ne h hPN
        have HE := Lib.hid (show natTxt (val l) = [48] by rw [hN0]; rfl)
        rcases hO.ex with ⟨a9, c9, rfl⟩
        clear hPN hN0 hu hO
        simp only [List.length_nil]
        go_wp2
        go_ret
        exact ⟨by rw [HE.out]; rfl, hB2⟩
      · have hN0 : 0 < val l := by
          apply Nat.pos_of_ne_zero; intro h
          rw [h, pcs_zero] at hPN
          exact hP0 hPN.symm
        have HPN := Lib.hid hPN
        have HN0 := Lib.hid hN0
        have hPz : ((P.length : Int) == 0) = false := by rw [beq_eq_false_iff_ne]; have := List.length_pos_iff.2 hP0; omega
        obtain ⟨a9, c9, rfl, hPU⟩ := hO.u32 (L := P) (fun x hx => by
          have := pcs_lt (val l) x (by rw [HPN.out]; exact hx)
          unfold BB; omega)
        rcases hPU.2.2.2 with h0 | ⟨bp, op, rfl, hPc⟩
        · exact absurd h0 hP0
        clear hPN hN0 hu hO hPU
        have HPL9 := Lib.hid (show ∀ x ∈ P, x < 1000000000 from fun x hx => pcs_lt (val l) x (by rw [HPN.out]; exact hx))
        have HLST := Lib.hid (show ∀ h : P ≠ [], 0 < P.getLast h from by rw [← HPN.out]; exact pcs_last (val l))
        have HE := Lib.hid (show natTxt (val l) = asc (lowP P) by rw [← HPN.out, lowP_pcs]; unfold natTxt; rw [if_neg (by have := HN0.out; omega)])
        have hza := zeroArr9
        have hbp := cell_lt (hPc 0 (List.length_pos_iff.2 hP0))
        simp only [List.length_nil]
        go_wp2
        go_loopw [9] (fun x wx => ∃ k : Nat, k ≤ P.length ∧ x = .int .i64 ((k : Int) - 1) ∧ Bld wr.heap.size wr.heap.size (asc (lowP (P.drop k))) wx ∧ Below wr.heap.size wr wx ∧ wr.heap.size < wx.heap.size) (fun x _ => (intOf x + 1).toNat)
        case atStart => exact ⟨P.length, Nat.le_refl _, rfl, by rw [List.drop_length]; exact Bld.new rfl, bal (Below.refl _ _) _, by simp⟩
        case round =>
          rename World => wx
          obtain ⟨k, hk, rfl, hBd, hBx, hsx⟩ := hrel
          cases k with
          | zero =>
            clear hza
            rw [List.drop_zero] at hBd
            go_wp2_with fail
            refine (bstring_c wr.heap.size wr.heap.size _ _ hBd hBx.size).mono ?_
            rintro e w6 ⟨rfl, hb6⟩
            go_wp2
            go_ret
            exact ⟨by rw [HE.out]; rfl, bthen hB2 (hBx.trans hb6)⟩
          | succ k =>
            have hp9 : P.getD k 0 < 1000000000 := HPL9.out _ (by rw [List.getD_eq_getElem?_getD, List.getElem?_eq_getElem (by omega)]; exact List.getElem_mem _)
            have HTOP := Lib.hid (show k + 1 = P.length → 0 < P.getD k 0 from fun h => by
              have h2 := HLST.out hP0
              rw [List.getLast_eq_getElem] at h2
              rw [List.getD_eq_getElem?_getD, List.getElem?_eq_getElem (by omega)]
              have e : P.length - 1 = k := by omega
              simp only [e] at h2
              exact h2)
            have HTP := Lib.hid (show k + 1 = P.length → lowP (P.drop k) = lowD (P.getD k 0) from fun h => lowP_top h)
            have HLO := Lib.hid (show k + 1 < P.length → lowP (P.drop k) = padD 9 (P.getD k 0) ++ lowP (P.drop (k + 1)) from fun h => lowP_low h)
            have q0 := bkeep hBx (hPc k (by omega))
            generalize P.getD k 0 = p at *
            have hkl : (k : Int) < (P.length : Int) := by omega
            have q1 := cell_alloc q0 (.cells #[.int .u8 0, .int .u8 0, .int .u8 0, .int .u8 0, .int .u8 0, .int .u8 0, .int .u8 0, .int .u8 0, .int .u8 0] 229)
            rw [show (((k + 1 : Nat) : Int) - 1) = (k : Int) from by omega]
            go_wp2
            go_loopw [11, 12] (fun xv kv wi => ∃ j m : Nat, j + m = 9 ∧ kv = .int .i64 ((j : Int) - 1) ∧ xv = .int .u32 ((p / 10 ^ m : Nat) : Int) ∧ Arr9 wi wx.heap.size (Z9 j m p) ∧ Below wx.heap.size wx wi ∧ wx.heap.size < wi.heap.size) (fun _ kv _ => (intOf kv + 1).toNat)
            case atStart => exact ⟨9, 0, rfl, rfl, by simp, Arr9.new wx p, bal (Below.refl _ _) _, by simp⟩
            case round =>
              rename World => wi
              obtain ⟨j, m, hjm, rfl, rfl, hA, hBi, hsi⟩ := hrel
              cases j with
              | zero =>
                obtain rfl : m = 9 := by omega
                have hBy : Bld wr.heap.size wr.heap.size (asc (lowP (P.drop (k + 1)))) wi := hBd.keep hBi
                have hsl : (convert 185 9 (.slice (some ⟨wx.heap.size, 0, none⟩) 9 9)).run Tryz.prog wi = .ok (.string ⟨(asc (padD 9 p)).toArray⟩) wi := by
                  have hl9 : (asc (padD 9 p)).length = 9 := by rw [asc_len, padD_len]
                  have := run_convert_bytes_back (P := Tryz.prog) wi 185 9 5 ⟨wx.heap.size, 0, none⟩ 9 (asc (padD 9 p)) Tryz.underlying185 Tryz.underlying5 Tryz.underlying9 (fun j hj => by
                    have h := hA.cell j (by omega)
                    rw [Z9_end] at h
                    unfold Addr.add
                    split
                    · subst_vars; simpa [hj] using h
                    · simpa [hj] using h)
                  rwa [hl9] at this
                have hBw := bthen hBx hBi
                clear hA hBi hBd hza q0 q1
                have hsw := hBw.size
                have hll : (asc (lowP (P.drop (k + 1)))).length ≤ 19327353120 := by
                  have h1 := lowP_len (P.drop (k + 1)) (fun x hx => HPL9.out x (List.mem_of_mem_drop hx))
                  rw [asc_len]
                  have h2 : (P.drop (k + 1)).length ≤ P.length := by rw [List.length_drop]; omega
                  omega
                by_cases hk1 : k + 1 = P.length
                · have ht : ((k : Int) == (P.length : Int) - 1) = true := by rw [beq_iff_eq]; omega
                  have HEQ := Lib.hid (show asc (lowP (P.drop (k + 1))) ++ asc (lowD p) = asc (lowP (P.drop k)) by
                    rw [HTP.out hk1, List.drop_eq_nil_of_le (by omega)]; rfl)
                  have htr := fun W => trimLeft_c ⟨(asc (padD 9 p)).toArray⟩ W
                  rw [show Lib.trimLeftB (ByteArray.mk (asc (padD 9 p)).toArray).data.toList 48 = asc (lowD p) from asc_pad_top (HTOP.out hk1) hp9] at htr
                  have hld : (asc (lowD p)).length ≤ 9 := by rw [asc_len]; exact (padD_low 9 p hp9).2
                  clear hk1
                  generalize asc (padD 9 p) = tx at *
                  generalize asc (lowD p) = ty at *
                  generalize asc (lowP (P.drop (k + 1))) = lx at *
                  go_wp2_with fail
                  refine (htr _).mono ?_
                  rintro e w5 ⟨rfl, rfl⟩
                  clear htr
                  go_wp2_with fail
                  refine (bwrite_c wr.heap.size wr.heap.size lx ⟨ty.toArray⟩ _ hBy (by show lx.length + ty.length ≤ _; omega) hsw).mono ?_
                  rintro e w6 ⟨rfl, hBz, hb6⟩
                  go_wp2
                  exact ⟨⟨k, by omega, by go_num, by rw [← HEQ.out]; exact hBz, hBw.trans hb6, by have := hb6.size; omega⟩, by simp [intOf]⟩
                · have ht : ((k : Int) == (P.length : Int) - 1) = false := by rw [beq_eq_false_iff_ne]; omega
                  have HEQ := Lib.hid (show asc (lowP (P.drop (k + 1))) ++ asc (padD 9 p) = asc (lowP (P.drop k)) by
                    rw [HLO.out (by omega), asc_append])
                  have hld : (asc (padD 9 p)).length ≤ 9 := by rw [asc_len, padD_len]; omega
                  clear hk1
                  generalize asc (padD 9 p) = ty at *
                  generalize asc (lowP (P.drop (k + 1))) = lx at *
                  go_wp2_with fail
                  refine (bwrite_c wr.heap.size wr.heap.size lx ⟨ty.toArray⟩ _ hBy (by show lx.length + ty.length ≤ _; omega) hsw).mono ?_
                  rintro e w6 ⟨rfl, hBz, hb6⟩
                  go_wp2
                  exact ⟨⟨k, by omega, by go_num, by rw [← HEQ.out]; exact hBz, hBw.trans hb6, by have := hb6.size; omega⟩, by simp [intOf]⟩
              | succ j =>
                have HS := Lib.hid (Z9_step j m p)
                have HQ := Lib.hid (show p / 10 ^ (m + 1) = p / 10 ^ m / 10 by rw [Nat.pow_succ, Nat.div_div_eq_div_mul])
                have hZl := Z9_len (j + 1) m p
                rw [show (((j + 1 : Nat) : Int) - 1) = (j : Int) from by omega]
                have hj9 : (j : Int) < 9 := by omega
                have qc := hA.cell j (by omega)
                have qf := hA.free j
                have hAn := hA.set (k := j) (by rw [hZl, hjm]) (by omega) (dig (p / 10 ^ m % 10))
                rw [HS.out] at hAn
                have hq9 : p / 10 ^ m < 4294967296 := Nat.lt_of_le_of_lt (Nat.div_le_self _ _) (by omega)
                generalize p / 10 ^ m = q at *
                have hc10 : q % 10 < 10 := by omega
                obtain ⟨bb, hbb⟩ : ∃ bb, bb = dig (q % 10) := ⟨_, rfl⟩
                rw [← hbb] at hAn
                have e3 : (q : Int).tmod 10 = ((q % 10 : Nat) : Int) := rfl
                have e4 : (q : Int).tdiv 10 = ((q / 10 : Nat) : Int) := rfl
                have e5 : ((q / 10 : Nat) : Int) % 4294967296 = ((q / 10 : Nat) : Int) := by omega
                have hb1 : (48 : Int) + ((q % 10 : Nat) : Int) = (bb.toNat : Int) := by rw [hbb, dig_nat hc10]; omega
                have hb2 : (bb.toNat : Int) % 256 = (bb.toNat : Int) := by have := bb.toNat_lt; omega
                have hb3 : IntKind.u32.wrap (bb.toNat : Int) = (bb.toNat : Int) := w32 (by have := bb.toNat_lt; unfold BB; omega)
                have HBB := Lib.hid hbb
                have HAN := Lib.hid hAn
                clear hbb hAn hZl
                generalize q % 10 = c10 at *
                generalize q / 10 = q10 at *
                go_wp2
                refine ⟨⟨j, m + 1, by omega, by go_num, by rw [HQ.out], HAN.out, bset hBi (by simp) _, by simpa using hsi⟩, by simp [intOf]⟩
end Go.Proofs.YtannhpadoooedaaGreatDoor

/- Ranges over functions, in the plain walk: a law in the wide fence, and what its users need. -/
namespace Go.Proofs.YtannhpadoooedaaGreatDoor
open Go.ChangeShapes Go.WideShapes Go.ChangeAt Go.RowKit
set_option linter.unusedVariables false

theorem calls_of_wp_marks {P : Program} {f : FuncId} {fn : Func} {c : Code} {args : Array Value} {w : World} {R : Ending → World → Prop}
    (hf : P.funcs[f]? = some fn) (hb : fn.body = some c)
    (h : c.wp P (bodyPostM Fence.wide 9 P fn R) { tmps := args ++ Array.replicate (fn.ntmps - args.size) undef, defers := [] } w) : Calls P f args w R :=
  callsIn_wide.1 (callsIn_of_wp_marks (F := Fence.wide) (n := 9) hf hb trivial (wpIn_wide.2 h) rfl)
theorem roundIn_wide {n m : Nat} {P : Program} {l : Nat} {f : FuncId} {tmps : Array Value} {assign body : Code} {w : World} {R : Ending → World → Prop} (h : RoundIn Fence.wide n P l f tmps assign body w R) : RoundIn Fence.wide m P l f tmps assign body w R :=
  ⟨h.1, fun c cs _ => h.2 c cs (room_wide _)⟩
theorem yieldAt_wide {n m : Nat} {P : Program} {l : Nat} {args : Array Value} {W : World} {R : Ending → World → Prop} (h : YieldAt Fence.wide n P l args W R) : YieldAt Fence.wide m P l args W R := by
  obtain ⟨fn, tmps, assign, body, hy, hR⟩ := h
  exact ⟨fn, tmps, assign, body, hy, roundIn_wide hR⟩

/-- every row of cells lies as it lay; below B everything -/
structure Soft (B : Nat) (W W' : World) : Prop where
  below : Below B W W'
  cells : ∀ (k : Nat) (o : Obj), W.heap[k]? = some o → o.isCells = true → W'.heap[k]? = some o
theorem soft_of_grown {B : Nat} {W W' : World} {row : Option Nat} (hB : B ≤ W.heap.size) (hg : W.grownBy W' row) (hr : ∀ r, row = some r → B ≤ r ∧ ∃ o : Obj, W.heap[r]? = some o ∧ o.isCells = false) : Soft B W W' := by
  refine ⟨(Below.refl B W).grown hg hB (fun k e => (hr k e).1), fun k o hk ho => ?_⟩
  refine (hg.block k (Array.getElem?_eq_some_iff.1 hk).1 (fun e => ?_)).trans hk
  obtain ⟨_, o', ho', hc⟩ := hr k e.symm
  rw [hk] at ho'; cases ho'; rw [ho] at hc; cases hc
theorem Soft.block {B : Nat} {W W' : World} (h : Soft B W W') {p : Addr} {v : Value} (hv : W.cell? p = some v) : W'.heap[p.block]? = W.heap[p.block]? := by
  unfold World.cell? at hv
  split at hv
  · rename_i c t f e
    rw [e]; exact h.cells _ _ e rfl
  · cases hv
theorem Soft.cell {B : Nat} {W W' : World} (h : Soft B W W') {p : Addr} {v : Value} (hv : W.cell? p = some v) : W'.cell? p = some v :=
  (World.cell?_of_block (h.block hv)).trans hv
theorem Soft.frozen {B : Nat} {W W' : World} (h : Soft B W W') {p : Addr} {v : Value} (hv : W.cell? p = some v) (hf : W.frozen? p = false) : W'.frozen? p = false :=
  (World.frozen?_of_block (h.block hv)).trans hf

/-! what a round's body keeps -/
/-- THE LAW: an iterator that tells the list L, or is left; the loop's variable may be boxed (Ax). -/
theorem wp_rangeK {P : Program} {α : Type} {g : Operand} {ps : Array Tmp} {assign body : Code} {Q : Exit → Act → World → Prop} {a : Act} {w : World}
    {gf : Nat} {lb : Array Value} (hg : a.eval g = .func (.func gf) #[] lb) (eg : ∀ args w, (callFunc gf args).run P w = .ok (.enter gf args) w)
    {encs : α → Array Value} {L : List α} {N : Nat} {Kp : World → World → Prop} {w0 : World} (hseq : SeqStopsK Fence.wide 8 P gf lb encs Kp (· = L) (· <+: L) N w0)
    (hKt : ∀ {A B C : World}, Kp A B → Kp B C → Kp A C) (hKb : ∀ (W : World) (l : Nat) (o o' : Obj), w.heap.size ≤ l → W.heap[l]? = some o → o.isCells = false → o.isWalk = false → Kp W (W.putObj l o'))
    (hb0 : Below w0.heap.size w0 w) (hps : ∀ x, (encs x).size = ps.size)
    (I : List α → World → Prop) (Ix : Code → List α → World → Prop) (hI : ∀ pre W W', I pre W → Soft w.heap.size W W' → I pre W') (hIx : ∀ c pre W W', Ix c pre W → Soft w.heap.size W W' → Ix c pre W')
    (hsz : ∀ pre W, I pre W → w.heap.size ≤ W.heap.size) (hszx : ∀ c pre W, Ix c pre W → w.heap.size ≤ W.heap.size) (h0 : I [] w)
    (Ax : Array Value → α → Act → World → Prop) (hAx : ∀ x a' W W', Ax a.tmps x a' W → Soft w.heap.size W W' → Ax a.tmps x a' W') (hAsz : ∀ x a' W, Ax a.tmps x a' W → w.heap.size ≤ W.heap.size)
    (hassign : ∀ (l : Nat) (pre : List α) (x : α) (W : World) (K : Act → World → Prop), I pre W → (∀ a' W', KeepsFrom w.heap.size W W' → Kp W W' → I pre W' → Ax a.tmps x a' W' → K a' W') →
      assign.wpIn (Fence.wide.inRound l) 7 P (Exit.then K (fun _ _ _ => False)) { tmps := (ps.zip (encs x)).foldl (fun t (p, v) => t.setIfInBounds p v) a.tmps, defers := [] } W)
    (hbody : ∀ (l : Nat) (pre : List α) (x : α) (a' : Act) (W : World), I pre W → Ax a.tmps x a' W → pre.length < N → body.wpIn (Fence.wide.inRound l) 7 P (ownPostG w.heap.size Kp I Ix (pre ++ [x]) W) a' W)
    (hdone : ∀ (D : Nat) (W : World), w.heap.size ≤ D → I L W → W.heap[D]? = some (.deferred (some [])) → Q .normal { a with defers := { target := .collected D, args := #[] } :: a.defers } W)
    (hstop : ∀ (D : Nat) (c : Code) (pre : List α) (W : World), w.heap.size ≤ D → pre <+: L → Ix c pre W → W.heap[D]? = some (.deferred (some [])) → c.wp P Q { a with defers := { target := .collected D, args := #[] } :: a.defers } W) :
    (Code.rangeFunc g ps assign body).wp P Q a w := by
  refine (wpIn_wide (n := 9)).1 ?_
  refine wpIn_rangeFunc_ownH (F := Fence.wide) rfl (by omega) hg trivial eg hseq hKt hKb hb0 hps I Ix ?_ ?_ h0 (Ax a.tmps) ?_ hassign
    (fun l pre x a' W _ _ hi hax hl => hbody l pre x a' W hi hax hl) (fun D xs W hD hx hi hk => by subst hx; exact hdone D W hD hi hk) (fun D c pre W hD hp hi hk => wpIn_wide.2 (hstop D c pre W hD hp hi hk))
  · intro pre W W' row hi hg' hr
    exact hI pre W W' hi (soft_of_grown (hsz _ _ hi) hg' hr)
  · intro c pre W W' row hi hg' hr
    exact hIx c pre W W' hi (soft_of_grown (hszx _ _ _ hi) hg' hr)
  · intro x a' u W W' row hi hg' hr
    exact hAx x a' W W' hi (soft_of_grown (hAsz _ _ _ hi) hg' hr)

theorem put_other {w : World} {D b : Nat} (o : Obj) (h : D ≠ b) : (w.putObj D o).heap[b]? = w.heap[b]? := by
  simp [World.putObj, Array.getElem?_setIfInBounds_ne h]
theorem cell_put {w : World} {D : Nat} {a : Addr} {v : Value} (h : w.cell? a = some v) (hne : D ≠ a.block) (o : Obj) : (w.putObj D o).cell? a = some v :=
  (World.cell?_of_block (put_other o hne)).trans h
theorem b_put {a W : World} (h : Below a.heap.size a W) {D : Nat} (hD : a.heap.size ≤ D) (o : Obj) : Below a.heap.size a (W.putObj D o) :=
  h.grown (grownBy_putObj' W D o) h.size (fun k e => by cases e; exact hD)

/-! ### A region that draws its order, in a round: one walk in the text's order -/
section
variable {P : Program} {ops : Array Oper} {C : World → Prop} {l n : Nat}
def noDefer (o : Oper) : Bool := match o.op with | .defer _ => false | _ => true
theorem noDefer_spec {o : Oper} (h : noDefer o = true) : ∀ c, o.op ≠ .defer c := by
  intro c e; unfold noDefer at h; rw [e] at h; cases h
theorem wpInR_of_quiet {o : Oper} {a : Act} {K : Act → Prop} {K' : Act → World → Prop} {Q' : Exit → Act → World → Prop} {w : World} (hnd : noDefer o = true) (hw : C w) (h : ∀ a w', C w' → K a → K' a w') (hh : o.quiet P a C K) : o.wpIn (Fence.wide.inRound l) n P a w K' Q' := by
  obtain ⟨v, h1, h2⟩ := hh
  have h3 := h1 w hw
  refine ⟨fun _ _ => trivial, ?_⟩
  rw [Fence.inRound_round, Oper.semAt_some l _ _ (noDefer_spec hnd)]
  unfold Oper.quietAt at h3
  generalize (execOp a.eval o).run P w = r at *
  cases r with
  | ok n w' =>
    cases n <;> simp only [Oper.quietUpon] at h3 <;> simp only [Oper.uponIn]
    case value u =>
      obtain ⟨e1, e2⟩ := h3
      rw [e1, e2]
      exact h _ _ hw h2
    case skip =>
      obtain ⟨e1, e2⟩ := h3
      rw [e1, ← e2]
      exact h _ _ hw h2
    case enter f args =>
      obtain ⟨e1, hc⟩ := h3
      rw [e1]
      refine ⟨fun hd => by simp [Fence.wide] at hd, ?_⟩
      exact CallsIn.inRound l (callsIn_wide.2 (hc.mono fun e w'' ⟨he, hw''⟩ => by subst he; exact h _ _ hw'' h2))
  | halt x w' => simp only [Oper.quietUpon] at h3
theorem wpOpInR_of_qOp {i : Nat} {a : Act} {K : Act → Prop} {K' : Act → World → Prop} {Q' : Exit → Act → World → Prop} {w : World} (hnd : ops.all noDefer = true) (hC : C w) (h : ∀ a w', C w' → K a → K' a w') (hh : qOp P ops C i K a) : wpOpIn (Fence.wide.inRound l) n P ops Q' i K' a w := by
  unfold qOp at hh
  unfold wpOpIn
  split
  · rename_i ho; simp only [ho] at hh; exact h _ _ hC hh
  · rename_i o ho
    simp only [ho] at hh
    have hno : noDefer o = true := by
      rw [Array.all_eq_true] at hnd
      obtain ⟨hi, he⟩ := Array.getElem?_eq_some_iff.1 ho
      rw [← he]; exact hnd i hi
    split
    · rename_i hw; simp only [hw, if_true] at hh; exact wpInR_of_quiet hno hC h hh
    · rename_i hw; simp only [hw] at hh; exact ⟨fun _ _ => trivial, h _ _ hC hh⟩
theorem wpAnyInR_of_quiet {md : Region.Mode} {Q : Act → Prop} {Q' : Exit → Act → World → Prop} (hnd : ops.all noDefer = true) (hQ : ∀ a w, C w → Q a → Q' .normal a w) : ∀ (fuel : Nat) (listed : Array Bool) (a : Act) (w : World), C w →
    wpAnyQ P md ops C Q fuel listed a → wpAnyIn (Fence.wide.inRound l) n P md ops Q' fuel listed a w
  | 0, _, _, _, hw, h => ⟨h.1, hQ _ _ hw h.2⟩
  | fuel + 1, _, _, _, hw, h => ⟨fun h0 => hQ _ _ hw (h.1 h0), fun i hi => wpOpInR_of_qOp hnd hw (fun a' w' hw' => wpAnyInR_of_quiet hnd hQ fuel _ a' w' hw') (h.2 i hi)⟩
theorem wpInR_region_quiet {id : Nat} {Q : Exit → Act → World → Prop} {a : Act} {w : World} (hm : P.follows .mixedOrders = true) (hB : Region.lexB .any ops = true) (hnd : ops.all noDefer = true) (hC : C { w with drawn := w.drawn + 1 })
    (h : wpQuiet P ops C (fun a' => ∀ w', C w' → Q .normal a' w') ops.toList a) : (Code.region id ops true).wpIn (Fence.wide.inRound l) n P Q a w := by
  simp only [Region.lexB, Bool.and_eq_true] at hB
  refine wpIn_region_any hm (wpAnyInR_of_quiet (Q := fun a' => ∀ w', C w' → Q .normal a' w') hnd (fun _ w' hw' h => h w' hw') _ _ _ _ hC ?_)
  have := wpAnyQ_lex (C := C) (md := .any) hB.1 ops.toList 0 (Array.replicate ops.size false) a (by simp) (by simpa using hB.2) h
  simpa using this
theorem wpInR_region_grow {id : Nat} {Q : Exit → Act → World → Prop} {a : Act} {w : World} {L : List Oper} (hm : P.follows .mixedOrders = true) (hB : Region.lexB .any L.toArray = true) (hnd : L.toArray.all noDefer = true)
    (h : wpQuiet P L.toArray (fun w' => ∃ s, w' = grow w s) (fun a' => ∀ w', Below w.heap.size w w' → Q .normal a' w') L a) : (Code.region id L.toArray true).wpIn (Fence.wide.inRound l) n P Q a w := by
  have e : (fun a' => ∀ w', Below w.heap.size w w' → Q .normal a' w') = (fun a' => ∀ w', (∃ s, w' = grow w s) → Q .normal a' w') := by
    funext a'
    exact propext ⟨fun h w' ⟨s, hs⟩ => h w' (hs ▸ s.below), fun h w' hb => h w' ⟨⟨w', hb⟩, rfl⟩⟩
  rw [e] at h
  exact wpInR_region_quiet (C := fun w' => ∃ s, w' = grow w s) hm hB hnd ⟨⟨w.drew, (Below.refl _ _).drew⟩, rfl⟩ (by simpa using h)
end
end Go.Proofs.YtannhpadoooedaaGreatDoor

/- limb: Digits: the iterator that tells a number's digits, from the first one on. -/
namespace Go.Proofs.YtannhpadoooedaaGreatDoor
open Num
open Go.ChangeShapes Go.WideShapes Go.ChangeAt Go.RowKit
set_option linter.unusedVariables false
set_option linter.unusedSimpArgs false
attribute [local go_sem] Oper.semAt_some

/-- the text's letters are the list's digits -/
def DigTxt (s : ByteArray) (L : List Nat) : Prop := s.data.toList = L.map dig ∧ ∀ d ∈ L, d < 10
theorem DigTxt.size {s : ByteArray} {L : List Nat} (h : DigTxt s L) : s.size = L.length := by
  have e := congrArg List.length h.1
  rw [List.length_map] at e
  rw [← e]; rfl
theorem DigTxt.get {s : ByteArray} {L : List Nat} (h : DigTxt s L) (k : Nat) (hk : k < L.length) (hs : k < s.size) : (s[k]'hs).toNat = 48 + L.getD k 0 ∧ L.getD k 0 < 10 := by
  have hd : L.getD k 0 < 10 := by
    rw [List.getD_eq_getElem?_getD, List.getElem?_eq_getElem hk]; exact h.2 _ (List.getElem_mem _)
  have e : s.data.toList[k]? = some (dig (L.getD k 0)) := by
    rw [h.1, List.getElem?_map, List.getElem?_eq_getElem hk]
    simp [List.getElem?_eq_getElem hk]
  have e2 : s[k]'hs = dig (L.getD k 0) := by
    have h3 : s.data.toList[k]? = some (s[k]'hs) := by
      rw [Array.getElem?_toList]
      exact Array.getElem?_eq_getElem hs
    rw [h3] at e; exact Option.some.inj e
  rw [e2, dig_nat hd]
  exact ⟨rfl, hd⟩
theorem next_dig {s : ByteArray} {L : List Nat} (h : DigTxt s L) {wr : World} {ib pos : Nat} (hit : wr.heap[ib]? = some (.stringIter s pos)) (hp : pos < L.length) (ty : TypeId) :
    (Instr.next (.pointer (some ⟨ib, 0, none⟩)) true ty).run Tryz.prog wr = .ok (.tuple #[.bool true, .int .i64 pos, .int .i32 ((48 + L.getD pos 0 : Nat) : Int)]) (wr.iterAt ib s (pos + 1)) := by
  have hs : pos < s.size := by rw [h.size]; exact hp
  obtain ⟨e, hd⟩ := h.get pos hp hs
  have := Go.Lib.run_next_ascii_at (P := Tryz.prog) wr ib s pos ty hit hs (by rw [e]; omega)
  rwa [e] at this
theorem iterAt_grown (w : World) (k : Nat) (s : ByteArray) (p : Nat) : w.grownBy (w.iterAt k s p) (some k) := by
  refine ⟨rfl, rfl, rfl, by simp [Go.World.iterAt], fun i hi hk => ?_⟩
  simp only [Go.World.iterAt]
  exact Array.getElem?_setIfInBounds_ne (fun e => hk (by rw [e]))

set_option maxRecDepth 100000 in
set_option maxHeartbeats 2000000 in
theorem dg_c (l B N n0 : Nat) (s : ByteArray) (L : List Nat) (J Jx : List Nat → World → Prop) (hJ : AbidesFrom n0 J) (hd : DigTxt s L)
    (hY : ∀ pre x W1, J pre W1 → pre.length < N → YieldAt Fence.wide 3 Tryz.prog l #[.int .i64 ((x % 10 : Nat) : Int)] W1 fun e W' => (e = .returned (.bool true) ∧ J (pre ++ [x]) W' ∧ KeepsWalks W1 W') ∨ (e = .returned (.bool false) ∧ Jx (pre ++ [x]) W'))
    (W : World) (hn : n0 = W.heap.size) (hm : W.cell? ⟨B, 0, none⟩ = some (.string s)) (h0 : J [] W) (hN : L.length ≤ N) :
    Calls Tryz.prog 171 #[.func (.yield l) #[] #[], .pointer (some ⟨B, 0, none⟩)] W fun e W' => (∃ v, e = .returned v) ∧ ((∃ xs, xs = L ∧ J xs W') ∨ (∃ pre, pre <+: L ∧ Jx pre W')) := by
  go_enter Tryz.func171, Tryz.ntmps171
  go_wp2
  go_loopg [4] L.length (fun gk u wr => ∃ pos : Nat, pos ≤ L.length ∧ gk = L.length - pos ∧ wr.heap[W.heap.size]? = some (.stringIter s pos) ∧ J (L.take pos) wr)
  case atStart => exact ⟨0, Nat.zero_le _, by omega, World.iter_heap W s 0, hJ _ _ _ none h0 ⟨rfl, rfl, rfl, by simp [World.iter], fun k hk _ => Below.heap_alloc _ _ _ hk⟩ (fun r e => by cases e)⟩
  case round =>
    obtain ⟨pos, hp, hgk, hit, hj⟩ := hrel
    by_cases hlt : pos < L.length
    · have hnx := next_dig hd hit hlt
      have hd10 := hd.2 (L.getD pos 0) (by rw [List.getD_eq_getElem?_getD, List.getElem?_eq_getElem hlt]; exact List.getElem_mem _)
      obtain ⟨wn, hwn⟩ : ∃ wn, wn = wr.iterAt W.heap.size s (pos + 1) := ⟨_, rfl⟩
      have hitn : wn.heap[W.heap.size]? = some (.stringIter s (pos + 1)) := by rw [hwn]; exact Go.Lib.iterAt_heap wr W.heap.size s pos (pos + 1) hit
      have hjn : J (L.take pos) wn := hJ _ _ _ (some W.heap.size) hj (by rw [hwn]; exact iterAt_grown _ _ _ _) (fun r e => by cases e; exact ⟨Nat.le_of_eq hn, _, hit, rfl⟩)
      rw [← hwn] at hnx
      clear hwn
      have HT := Lib.hid (show L.take (pos + 1) = L.take pos ++ [L.getD pos 0] by
        rw [List.take_add_one, List.getElem?_eq_getElem hlt]; simp [List.getElem?_eq_getElem hlt])
      obtain ⟨fn, tmps, asg, body, hy, hR⟩ := hY (L.take pos) (L.getD pos 0) wn hjn (by rw [List.length_take]; omega)
      rw [Nat.mod_eq_of_lt hd10] at hy
      generalize L.getD pos 0 = d at *
      have hw1 : (48 : Int) + (d : Int) - 48 = (d : Int) := by omega
      go_upto_region 3 with (fail)
      refine (wpIn_wide (n := 4)).1 ?_
      gi_wp2
      refine hR.mono ?_
      rintro e W' (⟨rfl, hJ', hk⟩ | ⟨rfl, hJx'⟩)
      · gi_wp2
        go_wp2
        go_roundg (L.length - (pos + 1))
        case measure => omega
        case rel => exact ⟨pos + 1, by omega, rfl, hk.same _ _ hitn rfl, by rw [HT.out]; exact hJ'⟩
      · gi_wp2
        go_wp2
        refine bodyPost_ret (results_none rfl _ _ _) rfl ?_
        exact ⟨⟨_, rfl⟩, .inr ⟨L.take (pos + 1), List.take_prefix _ _, by rw [HT.out]; exact hJx'⟩⟩
    · obtain rfl : pos = L.length := by omega
      have hnx := fun ty => Go.Lib.run_next_end_at (P := Tryz.prog) wr W.heap.size s L.length ty hit (by rw [hd.size]; omega)
      rw [List.take_length] at hj
      go_wp2
      refine bodyPost_end (results_none rfl _ _ _) rfl ?_
      exact ⟨⟨_, rfl⟩, .inl ⟨L, rfl, hj⟩⟩
theorem digits_stops (B N n : Nat) (s : ByteArray) (L : List Nat) (w : World) (hd : DigTxt s L) (hm : w.cell? ⟨B, 0, none⟩ = some (.string s)) (hN : L.length ≤ N) :
    SeqStopsK Fence.wide n Tryz.prog 171 #[.pointer (some ⟨B, 0, none⟩)] (fun x : Nat => #[.int .i64 ((x % 10 : Nat) : Int)]) KeepsWalks (· = L) (· <+: L) N w := by
  intro l J Jx W hW hJ hJx hY h0
  refine callsIn_wide.2 ?_
  exact dg_c l B N W.heap.size s L J Jx hJ hd (fun pre x W1 hp hl => yieldAt_wide (hY pre x W1 hp hl)) W rfl (bkeep hW hm) h0 hN
/-- what natTxt's letters are -/
def digL (n : Nat) : List Nat := if n = 0 then [0] else (lowD n).reverse
theorem digL_txt (n : Nat) : DigTxt ⟨(natTxt n).toArray⟩ (digL n) := by
  refine ⟨?_, ?_⟩
  · show natTxt n = (digL n).map dig
    unfold natTxt digL
    split
    · rfl
    · rw [asc_eq, List.map_reverse]
  · unfold digL
    split
    · intro d hd; simp at hd; omega
    · intro d hd; exact lowD_lt n d (by simpa using hd)
theorem limbDigits_c (a : Option Addr) (ca : Nat) (l : List Nat) (w : World) (ha : U32 w a ca l) (h1 : l.length ≤ 67108865) :
    Calls Tryz.prog 131 #[.slice a l.length ca] w fun e w' => ∃ B, e = .returned (.func (.func 171) #[] #[.pointer (some ⟨B, 0, none⟩)]) ∧ w'.cell? ⟨B, 0, none⟩ = some (.string ⟨(natTxt (val l)).toArray⟩) ∧ Below w.heap.size w w' := by
  have tc := fun W (h : Below w.heap.size w W) => limbText_c a ca l W (ha.keep h) h1
  go_enter Tryz.func131, Tryz.ntmps131
  go_wp2_with fail
  refine (tc _ (Below.refl _ _)).mono ?_
  rintro e w1 ⟨rfl, hb1⟩
  clear tc
  go_wp2
  go_ret
  exact ⟨_, rfl, cell_new rfl rfl, bal hb1 _⟩
end Go.Proofs.YtannhpadoooedaaGreatDoor

/- integer: Text. -/
namespace Go.Proofs.YtannhpadoooedaaGreatDoor
open Num
open Go.ChangeShapes Go.WideShapes Go.ChangeAt Go.RowKit
set_option linter.unusedVariables false
set_option linter.unusedSimpArgs false
attribute [local go_sem] Oper.semAt_some

/-- the text so far: a variable in memory (block c), its bytes from block base on -/
structure OutS (c base : Nat) (av : Option Addr) (cap : Nat) (L : List UInt8) (W : World) : Prop where
  cell : W.cell? ⟨c, 0, none⟩ = some (.slice av L.length cap)
  free : W.frozen? ⟨c, 0, none⟩ = false
  own : W.ownsRow base 5 1 (.slice av L.length cap) L.length (Lib.byteCells L)
  lt : c < base
theorem own_soft {B base : Nat} {W W' : World} {v : Value} {n : Nat} {xs : List Value} (h : W.ownsRow base 5 1 v n xs) (s : Soft B W W') : W'.ownsRow base 5 1 v n xs := by
  refine ⟨h.1, ?_⟩
  rcases h.2 with hn | ⟨g, cap, cur, rfl, hb, hgg, rest⟩
  · exact .inl hn
  · exact .inr ⟨g, cap, cur, rfl, hb, s.cells _ _ hgg rfl, rest⟩
theorem own_put {base : Nat} {W : World} {v : Value} {n : Nat} {xs : List Value} (h : W.ownsRow base 5 1 v n xs) (p : Addr) (x : Value) (hp : p.block < base) : (W.setCell p x).ownsRow base 5 1 v n xs := by
  refine ⟨h.1, ?_⟩
  rcases h.2 with hn | ⟨g, cap, cur, rfl, hb, hgg, rest⟩
  · exact .inl hn
  · exact .inr ⟨g, cap, cur, rfl, hb, (Below.heap_setCell _ _ _ _ (by omega)).trans hgg, rest⟩
theorem own_shape {base : Nat} {W : World} {v : Value} {L : List UInt8} (h : W.ownsRow base 5 1 v L.length (Lib.byteCells L)) : ∃ a c, v = .slice a L.length c := by
  rcases h.2 with ⟨rfl, h1⟩ | ⟨g, cap, cur, rfl, _⟩
  · exact ⟨none, 0, by rw [h1]⟩
  · exact ⟨_, _, rfl⟩
theorem OutS.soft {c base B : Nat} {av : Option Addr} {cap : Nat} {L : List UInt8} {W W' : World} (h : OutS c base av cap L W) (s : Soft B W W') : OutS c base av cap L W' :=
  ⟨s.cell h.cell, s.frozen h.cell h.free, own_soft h.own s, h.lt⟩
theorem OutS.keep {c base : Nat} {av : Option Addr} {cap : Nat} {L : List UInt8} {W W' : World} (h : OutS c base av cap L W) (hb : Below W.heap.size W W') : OutS c base av cap L W' :=
  ⟨bkeep hb h.cell, bkeepf hb h.cell h.free, own_below (w0 := W) h.own hb, h.lt⟩
/-- what the append and the store behind it leave -/
theorem OutS.next {c base : Nat} {av : Option Addr} {cap : Nat} {L X : List UInt8} {W w' : World} {v' : Value} (h : OutS c base av cap L W) (o : Obj)
    (hown : w'.ownsRow base 5 1 v' (L ++ X).length (Lib.byteCells (L ++ X))) (hg : (W.alloc o).grownBy w' (Value.slice av L.length cap).ownBlock) :
    ∃ av' cap', v' = .slice av' (L ++ X).length cap' ∧ OutS c base av' cap' (L ++ X) (w'.setCell ⟨c, 0, none⟩ v') ∧ KeepsOthers W (w'.setCell ⟨c, 0, none⟩ v') ∧ w'.cell? ⟨c, 0, none⟩ = some (.slice av L.length cap) ∧ w'.frozen? ⟨c, 0, none⟩ = false := by
  obtain ⟨av', cap', rfl⟩ := own_shape hown
  have hne : some c ≠ (Value.slice av L.length cap).ownBlock := fun e => by
    have := (h.own.lt c e.symm).1
    have := h.lt
    omega
  have c0 : w'.cell? ⟨c, 0, none⟩ = some (.slice av L.length cap) := hg.cell (cell_alloc h.cell o) hne
  have cf : w'.frozen? ⟨c, 0, none⟩ = false := by
    rw [World.frozen?_of_block (hg.block c (by have := cell_lt h.cell; simp; omega) hne)]
    exact bkeepf (bal (Below.refl _ _) _) h.cell h.free
  refine ⟨av', cap', rfl, ⟨cell_here c0 _, by rw [World.frozen?_setCell]; exact cf, own_put hown _ _ h.lt, h.lt⟩, ?_, c0, cf⟩
  refine ((KeepsOthers.alloc W o).trans (KeepsOthers.of_grownBy hg ?_)).trans (KeepsOthers.setCell _ _ _)
  intro j o' hj ho'
  rcases (h.own.alloc o).2 with ⟨h0, _⟩ | ⟨g, cap2, cur, h0, hb, hgg, rest⟩
  · rw [h0] at hj; simp [Value.ownBlock] at hj
  · rw [h0] at hj; simp [Value.ownBlock] at hj
    subst hj
    rw [hgg] at ho'; cases ho'; rfl
theorem OutS.str {c base : Nat} {av : Option Addr} {cap : Nat} {L : List UInt8} {W : World} (h : OutS c base av cap L W) : (convert 185 9 (.slice av L.length cap)).run Tryz.prog W = .ok (.string ⟨L.toArray⟩) W := by
  rcases h.own.2 with ⟨h1, h2⟩ | ⟨g, cap2, cur, h1, hb, hgg, rest⟩
  · obtain rfl : L = [] := List.length_eq_zero_iff.1 h2
    cases h1
    exact run_convert_bytes_nil W 185 5 Tryz.underlying185 Tryz.underlying5 0 0 9 Tryz.underlying9
  · cases h1
    have ho := h.own
    refine run_convert_bytes_back W 185 9 5 ⟨g, 0, none⟩ cap L Tryz.underlying185 Tryz.underlying5 Tryz.underlying9 fun j hj => ?_
    have := World.ownsRow.cellAt ho j (by omega)
    rw [bcells_get L j hj] at this
    unfold Addr.add
    split
    · subst_vars; simpa [hj] using this
    · simpa [hj] using this
theorem dig_map (L : List Nat) (h : ∀ d ∈ L, d < 10) : L.map (fun x => dig (x % 10)) = L.map dig := List.map_congr_left fun x hx => by rw [Nat.mod_eq_of_lt (h x hx)]
theorem digL_len {l : List Nat} (hl : Limbs l) (h1 : l.length ≤ 67108865) : (digL (val l)).length ≤ 2147483680 := by
  have h2 := val_lt hl
  rw [BB_pow] at h2
  have h3 := lowD_len _ _ h2
  unfold digL
  split
  · simp
  · rw [List.length_reverse]; omega
/-- a number's text: its sign, its digits -/
theorem intTxt_eq (n : Bool) (V : Nat) (hn : n = true → 0 < V) : intTxt (sg n V) = (if n then [45] else []) ++ (digL V).map (fun x => dig (x % 10)) := by
  have hd := digL_txt V
  have e : natTxt V = (digL V).map dig := hd.1
  rw [dig_map _ hd.2, ← e]
  unfold intTxt
  rw [sg_abs]
  cases n with
  | true => rw [if_pos (by have := hn rfl; simp [sg]; omega)]; rfl
  | false => rw [if_neg (by simp [sg])]; rfl


set_option maxRecDepth 100000 in
set_option maxHeartbeats 8000000 in
theorem intText_c (vx : Value) (x : Int) (k : Nat) (w : World) (hx : IsInt w vx x) (bx : Bd k x) (hk : k ≤ 2147483648) :
    Calls Tryz.prog 80 #[vx] w fun e w' => e = .returned (.string ⟨(intTxt x).toArray⟩) ∧ Below w.heap.size w w' := by
  obtain ⟨n1, a1, c1, l1, rfl, u1, g1, s1, rfl⟩ := hx
  have k1 : l1.length ≤ 67108865 := by
    by_cases h0 : l1 = []
    · subst h0; simp
    · have h1 := nrm_val_pos g1 h0
      rw [BB_pow] at h1
      have h2 : 32 * (l1.length - 1) < k := (Nat.pow_lt_pow_iff_right (a := 2) (by omega)).1 (Nat.lt_of_le_of_lt h1 (sg_bd bx))
      omega
  have HE := Lib.hid (intTxt_eq n1 (val l1) (fun h => by
    have h1 := nrm_val_pos g1 (s1 h)
    have : 0 < BB ^ (l1.length - 1) := Nat.pow_pos BB_pos
    omega))
  have HDL := Lib.hid (digL_len u1.2.2.1 k1)
  have HDT := Lib.hid (digL_txt (val l1))
  clear bx s1
  unfold iv
  obtain ⟨i0, z0, hi0, hz0, hsize0, hby0, hzs0⟩ := el8.info
  refine calls_of_wp_marks Tryz.func80 rfl ?_
  simp only [Tryz.ntmps80, List.size_toArray, List.length_cons, List.length_nil, Nat.reduceAdd, Nat.reduceSub, Array.replicate_succ, Array.replicate_zero, List.push_toArray, List.append_toArray, List.nil_append, List.cons_append, Array.append_empty, Array.empty_append]
  cases n1 with
  | false =>
    go_wp2_with fail
    refine (limbDigits_c a1 c1 l1 _ (u1.keep (bal (bal (Below.refl _ _) _) _)) k1).mono ?_
    rintro e wD ⟨B, rfl, hstr, hbD⟩
    have hO : OutS (w.heap.size + 1) (w.heap.size + 2) none 0 [] wD := OutS.keep ⟨cell_new (by simp) rfl, by rw [World.frozen?_alloc_at (hn := by simp)], World.ownsRow_nil _ _ _ _, by omega⟩ hbD
    have hBD : Below w.heap.size w wD := bthen (bal (bal (Below.refl _ _) _) _) hbD
    have HE := Lib.hid (show intTxt (sg false (val l1)) = ([] : List UInt8) ++ (digL (val l1)).map (fun x => dig (x % 10)) from HE.out)
    have hszD := hbD.size
    have hsD : w.heap.size + 2 ≤ wD.heap.size := by have := cell_lt hO.cell; omega
    go_wp2
    refine wp_rangeK (gf := 171) (lb := #[.pointer (some ⟨B, 0, none⟩)]) (w0 := wD) (L := digL (val l1)) (N := (digL (val l1)).length) (Kp := KeepsWalks) (by simp [Act.eval]) (enters_of Tryz.func171 (by kernel_rfl) rfl)
      (encs := fun x : Nat => #[.int .i64 ((x % 10 : Nat) : Int)]) (digits_stops B _ 8 _ _ wD HDT.out hstr (Nat.le_refl _)) (fun h k => walksK_t h k) (fun W l o o' h1 h2 h3 h4 => walksK_b W l o o' h1 h2 h3 h4) (Below.refl _ _) (fun _ => rfl)
      (fun pre W => (∃ av cap, OutS (w.heap.size + 1) (w.heap.size + 2) av cap (([] : List UInt8) ++ pre.map (fun x => dig (x % 10))) W) ∧ Below w.heap.size w W ∧ wD.heap.size ≤ W.heap.size)
      (fun c pre W => False)
      ?_ ?_ ?_ ?_ ?_
      (fun T x a' W => a' = { tmps := (T.setIfInBounds 13 (.int .i64 ((x % 10 : Nat) : Int))).setIfInBounds 4 (.int .i64 ((x % 10 : Nat) : Int)), defers := [] } ∧ wD.heap.size ≤ W.heap.size)
      ?_ ?_ ?assign0 ?body0 ?done0 ?stop0
    case assign0 =>
      rintro l pre x W K hi hK
      generalize x % 10 = d at *
      gi_wp2
      exact hK _ _ (KeepsFrom.refl _ _) (KeepsWalks.refl _) hi ⟨by simp, hi.2.2⟩
    case body0 =>
      rintro l pre x a' w6 ⟨⟨av6, cap6, hO6⟩, hB6, hs6⟩ ⟨rfl, _⟩ hl
      have hlm : (([] : List UInt8) ++ pre.map (fun x => dig (x % 10))).length ≤ 2147483690 := by
        have := HDL.out
        simp
        omega
      have HLN := Lib.hid (show ([] : List UInt8) ++ (pre ++ [x]).map (fun x => dig (x % 10)) = (([] : List UInt8) ++ pre.map (fun x => dig (x % 10))) ++ [dig (x % 10)] by simp)
      have hd10 : x % 10 < 10 := Nat.mod_lt _ (by omega)
      generalize ([] : List UInt8) ++ pre.map (fun x => dig (x % 10)) = Lp at *
      obtain ⟨bb, hbb⟩ : ∃ bb, bb = dig (x % 10) := ⟨_, rfl⟩
      rw [← hbb] at HLN
      have hb1 : (48 : Int) + ((x % 10 : Nat) : Int) = (bb.toNat : Int) := by rw [hbb, dig_nat hd10]; omega
      have hb2 : (bb.toNat : Int) % 256 = (bb.toNat : Int) := by have := bb.toNat_lt; omega
      clear hbb
      generalize x % 10 = d at *
      have c0 := hO6.cell
      have cf := hO6.free
      have hsz6 := cell_lt c0
      simp only [List.setIfInBounds_toArray, List.set_cons_succ, List.set_cons_zero]
      gi_wp2_with (gi_at_builtin; refine wpListIn_append_own _ rfl _ _ 185 rfl (w.heap.size + 2) 5 i0 z0 1 1 el8.ht hi0 hz0 hsize0 hby0 hzs0 el8.pos (.slice av6 Lp.length cap6) Lp.length (Lib.byteCells Lp) rfl (hO6.own.alloc _) ⟨w6.heap.size, 0, none⟩ 1 1 [.int .u8 (bb.toNat : Int)] rfl rfl (cell_one_new _ _ _) ?_ ?_ ?_ ?_ ?_; (simp [Value.oneCell']); (unfold maxLen; omega); omega; (simp; omega); intro v' w7 hown hg _; obtain ⟨av7, cap7, rfl, hO7, hKO, c7, f7⟩ := OutS.next hO6 (X := [bb]) _ (by rw [bcells_app, List.length_append]; exact hown) hg)
      have hB7 : Below w.heap.size w w7 := (bal hB6 _).grown hg (by simp; omega) (fun k e => by have := (hO6.own.lt k e).1; omega)
      have e7 : (Lp ++ [bb]).length = Lp.length + 1 := by simp
      rw [e7] at hO7 hKO
      have hs7 := hg.size
      simp at hs7
      refine ⟨hKO.from _, hKO.walks, ⟨_, _, by rw [HLN.out]; exact hO7⟩, bset hB7 (by simp) _, by simp; omega⟩
    case done0 =>
      rintro D w8 hDs ⟨⟨av8, cap8, hO8⟩, hB8, hs8⟩ hK0
      rw [← HE.out] at hO8
      have c0 := hO8.cell
      have hst := hO8.str
      go_wp2
      refine ⟨by simp, .inl ⟨_, _, rfl, run_takeDeferred (b := D) (ds := []) hK0, ?_⟩⟩
      refine ⟨.string ⟨(intTxt (sg false (val l1))).toArray⟩, ?_, rfl, b_put hB8 (by omega) _⟩
      simp [results, Tryz.results80, go_sem]
    case stop0 => intro D c pre W _ _ h; cases h
    · rintro pre W W' ⟨⟨av, cap, h⟩, h2, h3⟩ s; exact ⟨⟨av, cap, h.soft s⟩, h2.trans (s.below.mono (by omega)), Nat.le_trans h3 s.below.size⟩
    · exact fun c pre W W' h s => h
    · exact fun pre W h => h.2.2
    · exact fun c pre W h => h.elim
    · exact ⟨⟨_, _, by simpa using hO⟩, hBD, Nat.le_refl _⟩
    · rintro x a' W W' ⟨rfl, h⟩ s; exact ⟨rfl, Nat.le_trans h s.below.size⟩
    · rintro x a' W ⟨rfl, h⟩; exact h
  | true =>
    have hO0 : OutS (w.heap.size + 1) (w.heap.size + 2) none 0 [] ((w.alloc (.cells #[.bool true, .slice a1 l1.length c1] 48)).alloc (.cells #[.slice none 0 0] 185)) := ⟨cell_new (by simp) rfl, by rw [World.frozen?_alloc_at (hn := by simp)], World.ownsRow_nil _ _ _ _, by omega⟩
    have x00 : (((w.alloc (.cells #[.bool true, .slice a1 l1.length c1] 48)).alloc (.cells #[.slice none 0 0] 185)).alloc (.cells #[.int .u8 45] 5)).cell? ⟨w.heap.size, 1, none⟩ = some (.slice a1 l1.length c1) := cell_alloc (cell_alloc (cell_new rfl rfl) _) _
    have hnw : ∀ j u, [Value.int .u8 45][j]? = some u → (((w.alloc (.cells #[.bool true, .slice a1 l1.length c1] 48)).alloc (.cells #[.slice none 0 0] 185)).alloc (.cells #[.int .u8 45] 5)).cell? ((⟨w.heap.size + 1 + 1, 0, none⟩ : Addr).add j) = some u := fun j u hj => by
      have h := cell_one_new ((w.alloc (.cells #[.bool true, .slice a1 l1.length c1] 48)).alloc (.cells #[.slice none 0 0] 185)) (.int .u8 45) 5 j u hj
      simpa using h
    go_wp2_with (at_builtin; go_loud (refine wpList_append_own _ rfl _ _ 185 rfl (w.heap.size + 2) 5 i0 z0 1 1 el8.ht hi0 hz0 hsize0 hby0 hzs0 el8.pos (.slice none 0 0) 0 [] rfl (World.ownsRow_nil _ _ _ _) ⟨w.heap.size + 1 + 1, 0, none⟩ 1 1 [.int .u8 45] rfl rfl hnw ?_ ?_ ?_ ?_ ?_; (simp [Value.oneCell']); (unfold maxLen; omega); omega; (simp); intro v' w7 hown hg _; obtain ⟨av7, cap7, rfl, hO7, hKO, c7, f7⟩ := OutS.next hO0 (X := [45]) _ hown hg; have x1 := hg.cell x00 (by simp [Value.ownBlock])))
    have hB7 : Below w.heap.size w w7 := (bal (bal (bal (Below.refl _ _) _) _) _).grown hg (by simp; omega) (fun k e => by simp [Value.ownBlock] at e)
    have hs7 := hg.size
    simp at hs7
    refine (limbDigits_c a1 c1 l1 _ (u1.keep (bset hB7 (by simp) _)) k1).mono ?_
    rintro e wD ⟨B, rfl, hstr, hbD⟩
    have hO := hO7.keep hbD
    have hBD : Below w.heap.size w wD := bthen (bset hB7 (by simp) _) hbD
    have HE := Lib.hid (show intTxt (sg true (val l1)) = ([45] : List UInt8) ++ (digL (val l1)).map (fun x => dig (x % 10)) from HE.out)
    have hszD := hbD.size
    have hsD : w.heap.size + 2 ≤ wD.heap.size := by have := cell_lt hO.cell; omega
    go_wp2
    refine wp_rangeK (gf := 171) (lb := #[.pointer (some ⟨B, 0, none⟩)]) (w0 := wD) (L := digL (val l1)) (N := (digL (val l1)).length) (Kp := KeepsWalks) (by simp [Act.eval]) (enters_of Tryz.func171 (by kernel_rfl) rfl)
      (encs := fun x : Nat => #[.int .i64 ((x % 10 : Nat) : Int)]) (digits_stops B _ 8 _ _ wD HDT.out hstr (Nat.le_refl _)) (fun h k => walksK_t h k) (fun W l o o' h1 h2 h3 h4 => walksK_b W l o o' h1 h2 h3 h4) (Below.refl _ _) (fun _ => rfl)
      (fun pre W => (∃ av cap, OutS (w.heap.size + 1) (w.heap.size + 2) av cap (([45] : List UInt8) ++ pre.map (fun x => dig (x % 10))) W) ∧ Below w.heap.size w W ∧ wD.heap.size ≤ W.heap.size)
      (fun c pre W => False)
      ?_ ?_ ?_ ?_ ?_
      (fun T x a' W => a' = { tmps := (T.setIfInBounds 13 (.int .i64 ((x % 10 : Nat) : Int))).setIfInBounds 4 (.int .i64 ((x % 10 : Nat) : Int)), defers := [] } ∧ wD.heap.size ≤ W.heap.size)
      ?_ ?_ ?assign0 ?body0 ?done0 ?stop0
    case assign0 =>
      rintro l pre x W K hi hK
      generalize x % 10 = d at *
      gi_wp2
      exact hK _ _ (KeepsFrom.refl _ _) (KeepsWalks.refl _) hi ⟨by simp, hi.2.2⟩
    case body0 =>
      rintro l pre x a' w6 ⟨⟨av6, cap6, hO6⟩, hB6, hs6⟩ ⟨rfl, _⟩ hl
      have hlm : (([45] : List UInt8) ++ pre.map (fun x => dig (x % 10))).length ≤ 2147483690 := by
        have := HDL.out
        simp
        omega
      have HLN := Lib.hid (show ([45] : List UInt8) ++ (pre ++ [x]).map (fun x => dig (x % 10)) = (([45] : List UInt8) ++ pre.map (fun x => dig (x % 10))) ++ [dig (x % 10)] by simp)
      have hd10 : x % 10 < 10 := Nat.mod_lt _ (by omega)
      generalize ([45] : List UInt8) ++ pre.map (fun x => dig (x % 10)) = Lp at *
      obtain ⟨bb, hbb⟩ : ∃ bb, bb = dig (x % 10) := ⟨_, rfl⟩
      rw [← hbb] at HLN
      have hb1 : (48 : Int) + ((x % 10 : Nat) : Int) = (bb.toNat : Int) := by rw [hbb, dig_nat hd10]; omega
      have hb2 : (bb.toNat : Int) % 256 = (bb.toNat : Int) := by have := bb.toNat_lt; omega
      clear hbb
      generalize x % 10 = d at *
      have c0 := hO6.cell
      have cf := hO6.free
      have hsz6 := cell_lt c0
      simp only [List.setIfInBounds_toArray, List.set_cons_succ, List.set_cons_zero]
      gi_wp2_with (gi_at_builtin; refine wpListIn_append_own _ rfl _ _ 185 rfl (w.heap.size + 2) 5 i0 z0 1 1 el8.ht hi0 hz0 hsize0 hby0 hzs0 el8.pos (.slice av6 Lp.length cap6) Lp.length (Lib.byteCells Lp) rfl (hO6.own.alloc _) ⟨w6.heap.size, 0, none⟩ 1 1 [.int .u8 (bb.toNat : Int)] rfl rfl (cell_one_new _ _ _) ?_ ?_ ?_ ?_ ?_; (simp [Value.oneCell']); (unfold maxLen; omega); omega; (simp; omega); intro v' w7 hown hg _; obtain ⟨av7, cap7, rfl, hO7, hKO, c7, f7⟩ := OutS.next hO6 (X := [bb]) _ (by rw [bcells_app, List.length_append]; exact hown) hg)
      have hB7 : Below w.heap.size w w7 := (bal hB6 _).grown hg (by simp; omega) (fun k e => by have := (hO6.own.lt k e).1; omega)
      have e7 : (Lp ++ [bb]).length = Lp.length + 1 := by simp
      rw [e7] at hO7 hKO
      have hs7 := hg.size
      simp at hs7
      refine ⟨hKO.from _, hKO.walks, ⟨_, _, by rw [HLN.out]; exact hO7⟩, bset hB7 (by simp) _, by simp; omega⟩
    case done0 =>
      rintro D w8 hDs ⟨⟨av8, cap8, hO8⟩, hB8, hs8⟩ hK0
      rw [← HE.out] at hO8
      have c0 := hO8.cell
      have hst := hO8.str
      go_wp2
      refine ⟨by simp, .inl ⟨_, _, rfl, run_takeDeferred (b := D) (ds := []) hK0, ?_⟩⟩
      refine ⟨.string ⟨(intTxt (sg true (val l1))).toArray⟩, ?_, rfl, b_put hB8 (by omega) _⟩
      simp [results, Tryz.results80, go_sem]
    case stop0 => intro D c pre W _ _ h; cases h
    · rintro pre W W' ⟨⟨av, cap, h⟩, h2, h3⟩ s; exact ⟨⟨av, cap, h.soft s⟩, h2.trans (s.below.mono (by omega)), Nat.le_trans h3 s.below.size⟩
    · exact fun c pre W W' h s => h
    · exact fun pre W h => h.2.2
    · exact fun c pre W h => h.elim
    · exact ⟨⟨_, _, by simpa using hO⟩, hBD, Nat.le_refl _⟩
    · rintro x a' W W' ⟨rfl, h⟩ s; exact ⟨rfl, Nat.le_trans h s.below.size⟩
    · rintro x a' W ⟨rfl, h⟩; exact h
end Go.Proofs.YtannhpadoooedaaGreatDoor

/- exact's laws: row.Of, row.Text at one number; live. -/
namespace Go.Proofs.YtannhpadoooedaaGreatDoor
open Num
open Go.ChangeShapes Go.WideShapes Go.ChangeAt Go.RowKit
set_option linter.unusedVariables false
set_option linter.unusedSimpArgs false
attribute [local go_sem ↓] Go.wp_at_zero Go.wp_at_succ
set_option maxRecDepth 100000 in
set_option maxHeartbeats 8000000 in
theorem rowOf_c (v : Value) (l : List Int) (w : World) (hr : RowI w v l) (hl : l.length ≤ 400) :
    Calls Tryz.prog 53 #[v] w fun e w' => ∃ va, e = .returned va ∧ RowO IsInt 48 w.heap.size w' va l ∧ Below w.heap.size w w' := by
  obtain ⟨ra, rc, rfl, hr⟩ := hr
  have HR := Lib.hid hr
  clear hr
  have hB := Below.refl w.heap.size w
  go_enter Tryz.func53, Tryz.ntmps53
  go_wp2
  go_loopw [3, 8] (fun va x wr => ∃ j : Nat, j ≤ l.length ∧ x = .int .i64 j ∧ Hid (OwnF IsInt 48 w wr va j (fun i => l.getD i 0))) (fun _ x _ => l.length - (intOf x).toNat)
  case atStart => exact ⟨0, Nat.zero_le _, rfl, Lib.hid (OwnF.nil _ _ _ hB)⟩
  case round =>
    obtain ⟨j, hj, rfl, hF⟩ := hrel
    have hBr := hF.out.bel
    obtain ⟨fa, fc, hfv⟩ : ∃ a c, _ = Value.slice a j c := by obtain ⟨a, c, h, _⟩ := hF.out.view; exact ⟨a, c, h⟩
    subst hfv
    by_cases hlt : j < l.length
    · have hltI : (j : Int) < (l.length : Int) := by omega
      obtain ⟨rb, ro, rfl, hc, hI⟩ := HR.out j hlt
      have hc2 := bkeep hBr hc
      have zrb := cell_lt hc2
      have oc := fun W => of_c (l.getD j 0) W hI.1 hI.2
      have HSN := Lib.hid (snoc_fun l j hlt)
      obtain ⟨z, hz⟩ : ∃ z, l.getD j 0 = z := ⟨_, rfl⟩
      rw [hz] at hc2 oc HSN
      clear hc hI hz
      go_wp2_with fail
      refine (oc _).mono ?_
      rintro e w5 ⟨⟨v5, rfl, hi5⟩, hb5⟩
      have HF5 := Lib.hid (hF.out.below lims_int hb5)
      have HI5 := Lib.hid hi5
      obtain ⟨n5, a5, c5, l5, rfl, -⟩ := hi5
      unfold iv at *
      clear oc hc2
      go_wp2_with (at_builtin; refine app_num elInt (by decide) lims_int (by rfl) (by rfl) HF5.out HI5.out (by rfl) (by rfl) (by omega) ?_)
      intro v8 w8 hF8 _ _
      have HF8 := Lib.hid (hF8.congr' HSN.out)
      clear hF8
      go_wp2
      exact ⟨⟨j + 1, by omega, by go_num, HF8⟩, by simp [intOf]; omega⟩
    · obtain rfl : j = l.length := by omega
      go_wp2
      go_ret
      exact ⟨_, rfl, hF.out.rowO, hBr⟩
set_option maxRecDepth 100000 in
set_option maxHeartbeats 2000000 in
theorem join1_c (b c : Nat) (s sep : ByteArray) (w : World) (hc : w.cell? ⟨b, 0, none⟩ = some (.string s)) :
    Calls Tryz.prog 98 #[.slice (some ⟨b, 0, none⟩) 1 c, .string sep] w fun e w' => e = .returned (.string s) ∧ Below w.heap.size w w' := by
  have hB := Below.refl w.heap.size w
  go_enter Tryz.func98, Tryz.ntmps98
  go_wp2
  go_ret
  exact ⟨rfl, by repeat (first | exact Below.refl _ _ | exact hB | refine Below.drew ?_ | refine below_drewN ?_ _ | refine bset ?_ (by simp <;> omega) _ | refine bal ?_ _)⟩
/-- strings as values -/
def IsStr (w : World) (v : Value) (s : ByteArray) : Prop := v = .string s
set_option maxRecDepth 100000 in
set_option maxHeartbeats 8000000 in
theorem rowText1_c (v : Value) (x : Int) (k : Nat) (w : World) (hv : PRow 0 w v [x]) (bx : Bd k x) (hk : k ≤ 2147483648) (hs : (intTxt x).length ≤ 1000) :
    Calls Tryz.prog 54 #[v] w fun e w' => e = .returned (.string (⟨#[91]⟩ ++ ⟨(intTxt x).toArray⟩ ++ ⟨#[93]⟩)) ∧ Below w.heap.size w w' := by
  have HV := Lib.hid hv
  have HBX := Lib.hid bx
  obtain ⟨va, vc, rfl, -⟩ := hv
  clear bx
  have hl1 : [x].length = 1 := rfl
  rw [hl1] at HV ⊢
  clear hl1
  have hB := Below.refl w.heap.size w
  go_enter Tryz.func54, Tryz.ntmps54
  go_wp2
  go_loopw [3, 8] (fun l i wr => (l = .slice none 0 0 ∧ i = .int .i64 0 ∧ Below w.heap.size w wr) ∨ (∃ b c, l = .slice (some ⟨b, 0, none⟩) 1 c ∧ i = .int .i64 1 ∧ wr.cell? ⟨b, 0, none⟩ = some (.string ⟨(intTxt x).toArray⟩) ∧ Below w.heap.size w wr)) (fun _ i _ => 1 - (intOf i).toNat)
  case atStart => exact .inl ⟨rfl, rfl, hB⟩
  case round =>
    rcases hrel with ⟨rfl, rfl, hBr⟩ | ⟨b, c, rfl, rfl, hc, hBr⟩
    · obtain ⟨a', c', he, -, vr⟩ := (HV.out.keep lims_int hBr).view
      obtain ⟨rfl, -, rfl⟩ := Value.slice.inj he
      obtain ⟨b, off, nx, ax, lx, cx, rfl, c0, c1, hi⟩ := vr 0 (by simp)
      rw [Nat.zero_mul, Nat.add_zero] at c0 c1
      have tc := fun W (h : Below wr.heap.size wr W) => intText_c (.agg #[.bool nx, .slice ax lx cx]) x k W (hi.keep h) HBX.out hk
      have hBw := Below.refl wr.heap.size wr
      clear hi vr he
      go_wp2_with fail
      refine (tc _ (by repeat (first | exact Below.refl _ _ | exact hBw | refine Below.drew ?_ | refine below_drewN ?_ _ | refine bset ?_ (by simp <;> omega) _ | refine bal ?_ _))).mono ?_
      rintro e w5 ⟨rfl, hb5⟩
      have hB5 : Below wr.heap.size wr w5 := bthen (by repeat (first | exact Below.refl _ _ | exact hBw | refine Below.drew ?_ | refine below_drewN ?_ _ | refine bset ?_ (by simp <;> omega) _ | refine bal ?_ _)) hb5
      clear tc c0 c1
      have hBB := bthen hBr hB5
      go_wp2
      exact ⟨.inr ⟨_, _, rfl, by go_num, cell_drew (cell_new (by simp) (by rw [Array.getElem?_append_left (by simp)]; rfl)), by repeat (first | exact Below.refl _ _ | exact hBB | refine Below.drew ?_ | refine below_drewN ?_ _ | refine bset ?_ (by simp <;> omega) _ | refine bal ?_ _)⟩, by simp [intOf]⟩
    · have jc := fun W (h : Below wr.heap.size wr W) => join1_c b c ⟨(intTxt x).toArray⟩ ⟨#[32]⟩ W (bkeep h hc)
      have hBw := Below.refl wr.heap.size wr
      go_wp2_with fail
      refine (jc _ (by repeat (first | exact Below.refl _ _ | exact hBw | refine Below.drew ?_ | refine below_drewN ?_ _ | refine bset ?_ (by simp <;> omega) _ | refine bal ?_ _))).mono ?_
      rintro e w5 ⟨rfl, hb5⟩
      have hB5 : Below w.heap.size w w5 := bthen hBr (bthen (by repeat (first | exact Below.refl _ _ | exact hBw | refine Below.drew ?_ | refine below_drewN ?_ _ | refine bset ?_ (by simp <;> omega) _ | refine bal ?_ _)) hb5)
      have hn1 : ¬ 9223372036854775807 < 1 + (intTxt x).length := by omega
      have hn2 : ¬ 9223372036854775807 < 1 + (intTxt x).length + 1 := by omega
      go_wp2
      go_ret
      exact ⟨rfl, hB5⟩
/-- the world of a call is named -/
theorem wp_nameC {P : Program} {f : FuncId} {a : Array Value} {w : World} {Q : Ending → World → Prop} (h : ∀ W, W = w → Calls P f a W Q) : Calls P f a w Q := h w rfl
/-- the program of live -/
def liCode : List Ins := [⟨4, 0, 0, 1, 0⟩, ⟨6, 0, 0, 0, 2⟩]
def liOuts : List Int := [0]
theorem liOk : ProgOk 2 2 liCode liOuts := by
  refine ⟨by decide, by decide, by decide, by decide, by decide, by decide, fun k hk => ?_, fun k hk => ?_⟩
  · have : k < 1 := hk
    obtain rfl : k = 0 := by omega
    exact ⟨by decide, by decide⟩
  · have : k < 2 := hk
    rcases (show k = 0 ∨ k = 1 by omega) with rfl | rfl <;> decide
/-- the outcome of live's run -/
theorem live_run {w w' : World} {e : Ending} (h : ExRunPost 2 2 liCode liOuts [7, 3] w e w') : ∃ a c, e = .returned (.tuple #[.slice a 1 c, .int .i64 0, .int .i64 0]) ∧ PRow 0 w' (.slice a 1 c) [2] ∧ Below w.heap.size w w' := by
  have a2 : afterN liCode (startN [7, 3] (2 : Int).toNat) 2 = some [2, 3] := by decide +kernel
  obtain ⟨h, hB⟩ := h
  rcases h with ⟨hn, _⟩ | ⟨_, hn, _⟩ | ⟨_, _, m, s, hk, h1, h2, _⟩ | ⟨_, _, s, v, h1, rfl, h3⟩
  · exact absurd liOk hn
  · exact absurd (by decide) hn
  · have : m < 2 := hk
    have := afterN_mono h2 (show m + 1 ≤ 2 by omega)
    rw [a2] at this; cases this
  · rw [show liCode.length = 2 from rfl, a2] at h1
    cases h1
    have h4 : OwnF IsInt 48 w w' v ([2] : List Int).length (fun k => ([2] : List Int).getD k 0) := h3.congr' (fun k hk => by have : k < 1 := hk; obtain rfl : k = 0 := (by omega); rfl)
    have h5 := h4.row
    obtain ⟨a, c, rfl, -⟩ := h3.view
    exact ⟨a, c, rfl, h5.rebase (Nat.zero_le _), hB⟩
set_option maxRecDepth 100000 in
set_option maxHeartbeats 8000000 in
theorem live_c (w : World) : Calls Tryz.prog 10 #[] w fun e w' => e = .returned (.bool true) ∧ Below w.heap.size w w' := by
  have hB := Below.refl w.heap.size w
  go_enter Tryz.func10, Tryz.ntmps10
  go_wp2_with fail
  refine wp_nameC fun w1 hW1 => ?_
  have hb1 : Below w.heap.size w w1 := by rw [hW1]; repeat (first | exact Below.refl _ _ | exact hB | refine Below.drew ?_ | refine below_drewN ?_ _ | refine bset ?_ (by simp <;> omega) _ | refine bal ?_ _)
  have hI : InsV w1 (some ⟨w.heap.size, 0, none⟩) 2 liCode := .inr ⟨w.heap.size, 0, rfl, by decide, fun k hk => by
    rw [hW1]
    have hk2 : k < 2 := hk
    rcases (show k = 0 ∨ k = 1 by omega) with rfl | rfl
    · constructor <;> simp [go_sem, liCode]
    · constructor <;> simp [go_sem, liCode]⟩
  have hO : IntsV w1 (some ⟨w.heap.size + 1, 0, none⟩) 1 liOuts := .inr ⟨w.heap.size + 1, 0, rfl, by decide, fun k hk => by
    rw [hW1]
    have hk2 : k < 1 := hk
    obtain rfl : k = 0 := by omega
    simp [go_sem, liOuts]⟩
  have hR : RowI w1 (.slice (some ⟨w.heap.size + 1 + 1, 0, none⟩) 2 2) [7, 3] := ⟨_, _, rfl, fun k hk => ⟨_, _, rfl, by
    rw [hW1]
    have hk2 : k < 2 := hk
    rcases (show k = 0 ∨ k = 1 by omega) with rfl | rfl <;> simp [go_sem], by
    have hk2 : k < 2 := hk
    rcases (show k = 0 ∨ k = 1 by omega) with rfl | rfl <;> (unfold I64; simp)⟩⟩
  have HH := Lib.hid (And.intro hI hO)
  have oc := rowOf_c _ _ _ hR (by decide)
  clear hW1 hI hO hR
  refine oc.mono ?_
  rintro e w2 ⟨v2, rfl, hr2, hb2⟩
  have HR2 := Lib.hid (hr2.row.rebase (Nat.zero_le _))
  obtain ⟨a2, c2, hv2⟩ := hr2.ex
  replace hv2 : v2 = .slice a2 2 c2 := hv2
  subst hv2
  have hB2 := bthen hb1 hb2
  clear hr2 oc
  have hBw := Below.refl w2.heap.size w2
  have rx := fun W (h : Below w2.heap.size w2 W) => exRun_c 2 2 (some ⟨w.heap.size, 0, none⟩) (some ⟨w.heap.size + 1, 0, none⟩) 2 1 liCode liOuts (.slice a2 2 c2) [7, 3] 64 W (HH.out.1.keep (bthen hb2 h)) (HH.out.2.keep (bthen hb2 h)) (HR2.out.keep lims_int h) (by decide) (fun j => by
    by_cases h : j < 2
    · rcases (show j = 0 ∨ j = 1 by omega) with rfl | rfl <;> (unfold Bd; decide)
    · rw [List.getD_eq_getElem?_getD, List.getElem?_eq_none (by simpa using h)]; exact bd_zero) (by omega)
  go_wp2_with fail
  refine (rx _ (by repeat (first | exact Below.refl _ _ | exact hBw | refine Below.drew ?_ | refine below_drewN ?_ _ | refine bset ?_ (by simp <;> omega) _ | refine bal ?_ _))).mono ?_
  rintro e w3 hr3
  obtain ⟨a3, c3, rfl, hr, hb3⟩ := live_run hr3
  have HR3 := Lib.hid hr
  have hB3 := bthen hB2 (bthen (by repeat (first | exact Below.refl _ _ | exact hBw | refine Below.drew ?_ | refine below_drewN ?_ _ | refine bset ?_ (by simp <;> omega) _ | refine bal ?_ _)) hb3)
  clear hr hr3 rx
  have hBz := Below.refl w3.heap.size w3
  have tx := fun W (h : Below w3.heap.size w3 W) => rowText1_c (.slice a3 1 c3) 2 64 W (HR3.out.keep lims_int h) (by unfold Bd; decide) (by omega) (by decide +kernel)
  rw [show ((⟨#[91]⟩ : ByteArray) ++ ⟨(intTxt 2).toArray⟩ ++ ⟨#[93]⟩) = ⟨#[91, 50, 93]⟩ by decide +kernel] at tx
  go_wp2_with fail
  refine (tx _ (by repeat (first | exact Below.refl _ _ | exact hBz | refine Below.drew ?_ | refine below_drewN ?_ _ | refine bset ?_ (by simp <;> omega) _ | refine bal ?_ _))).mono ?_
  rintro e w4 ⟨rfl, hb4⟩
  have hB4 : Below w.heap.size w w4 := bthen hB3 (bthen (by repeat (first | exact Below.refl _ _ | exact hBz | refine Below.drew ?_ | refine below_drewN ?_ _ | refine bset ?_ (by simp <;> omega) _ | refine bal ?_ _)) hb4)
  clear tx
  go_wp2
  go_ret
  exact ⟨rfl, by repeat (first | exact Below.refl _ _ | exact hB4 | refine Below.drew ?_ | refine below_drewN ?_ _ | refine bset ?_ (by simp <;> omega) _ | refine bal ?_ _)⟩
end Go.Proofs.YtannhpadoooedaaGreatDoor

/- exact's laws: one, is. -/
namespace Go.Proofs.YtannhpadoooedaaGreatDoor
open Num
open Go.ChangeShapes Go.WideShapes Go.ChangeAt Go.RowKit
set_option linter.unusedVariables false
set_option linter.unusedSimpArgs false
attribute [local go_sem ↓] Go.wp_at_zero Go.wp_at_succ
set_option maxRecDepth 100000 in
set_option maxHeartbeats 4000000 in
theorem one_c (vx vy : Value) (x y : Int) (k : Nat) (w : World) (hx : IsInt w vx x) (hy : IsRef w vy y) (bx : Bd k x) (hk : k ≤ 4294967296) :
    Calls Tryz.prog 17 #[vx, vy] w fun e w' => e = .returned (.bool (decide (x = y))) ∧ Below w.heap.size w w' := by
  have lc := fun W (h : Below w.heap.size w W) => limbs_c vx x k W (hx.keep h) bx (by omega)
  have HY := Lib.hid hy
  obtain ⟨q, hq⟩ : ∃ q, decide (x = y) = q := ⟨_, rfl⟩
  rw [hq]
  have HQ := Lib.hid hq
  clear hq
  obtain ⟨n1, a1, c1, l1, rfl, -⟩ := hx
  obtain ⟨n2, a2, c2, l2, rfl, -⟩ := hy
  unfold iv at *
  clear bx
  have hB := Below.refl w.heap.size w
  go_enter Tryz.func17, Tryz.ntmps17
  go_wp2_with fail
  refine (lc _ (by repeat (first | exact Below.refl _ _ | exact hB | refine Below.drew ?_ | refine below_drewN ?_ _ | refine bset ?_ (by simp <;> omega) _ | refine bal ?_ _))).mono ?_
  rintro e w1 ⟨⟨neg, a, c, l, rfl, hu, hxe, hll⟩, hb1⟩
  have y0 : w1.cell? ⟨w.heap.size + 1, 0, none⟩ = some (.bool n2) := bkeep hb1 (by first | assumption | exact cell_new (by with_reducible first | rfl | (simp; done) | (simp; omega)) rfl | (repeat (first | assumption | exact cell_new (by with_reducible first | rfl | (simp; done) | (simp; omega)) rfl | refine cell_alloc ?_ _ | refine cell_drew ?_ | refine cell_drewN ?_ _ | refine cell_far ?_ (by simp) _ | (refine cell_far ?_ (by simp <;> omega) _))) | simp [go_sem, *])
  have zy0 := cell_lt y0
  have y1 : w1.cell? ⟨w.heap.size + 1, 1, none⟩ = some (.slice a2 l2.length c2) := bkeep hb1 (by first | assumption | exact cell_new (by with_reducible first | rfl | (simp; done) | (simp; omega)) rfl | (repeat (first | assumption | exact cell_new (by with_reducible first | rfl | (simp; done) | (simp; omega)) rfl | refine cell_alloc ?_ _ | refine cell_drew ?_ | refine cell_drewN ?_ _ | refine cell_far ?_ (by simp) _ | (refine cell_far ?_ (by simp <;> omega) _))) | simp [go_sem, *])
  have hB : Below w.heap.size w w1 := bthen (by repeat (first | exact Below.refl _ _ | exact hB | refine Below.drew ?_ | refine below_drewN ?_ _ | refine bset ?_ (by simp <;> omega) _ | refine bal ?_ _)) hb1
  have hz : w.heap.size ≤ w1.heap.size := hB.size
  have HU := Lib.hid hu
  have HX := Lib.hid hxe
  clear lc hu hxe
  have hw1 := Below.refl w1.heap.size w1
  have mc := fun W (h : Below w1.heap.size w1 W) => rmake_c neg a c l W (HU.out.keep h) (by omega)
  rw [← HX.out] at mc
  have sc := fun v W (h : Below w.heap.size w W) (hv : IsRef W v x) => rsame_c v (.agg #[.bool n2, .slice a2 l2.length c2]) x y W hv (HY.out.keep h)
  rw [HQ.out] at sc
  have HS := Lib.hid (show ∀ W, Below w1.heap.size w1 W → W.cell? ⟨w.heap.size + 1, 0, none⟩ = some (.bool n2) ∧ W.cell? ⟨w.heap.size + 1, 1, none⟩ = some (.slice a2 l2.length c2) from fun W h => ⟨bkeep h y0, bkeep h y1⟩)
  have hBc := hw1
  go_wp2
  go_region_held3 (fun w' => w'.cell? ⟨w.heap.size + 1, 0, none⟩ = some (.bool n2) ∧ w'.cell? ⟨w.heap.size + 1, 1, none⟩ = some (.slice a2 l2.length c2))
    (first | (refine HS.out _ ?_; (repeat (first | exact Below.refl _ _ | exact hBc | refine Below.drew ?_ | refine below_drewN ?_ _ | refine bset ?_ (by simp <;> omega) _ | refine bal ?_ _)); done) | fail)
    (first
      | (go_at_call 66; refine (mc _ ?_).mono ?_; (repeat (first | exact Below.refl _ _ | exact hBc | refine Below.drew ?_ | refine below_drewN ?_ _ | refine bset ?_ (by simp <;> omega) _ | refine bal ?_ _)); rintro e w5 ⟨⟨v5, rfl, hv5⟩, hb5⟩; (have hBd : Below w1.heap.size w1 w5 := bthen (by repeat (first | exact Below.refl _ _ | exact hBc | refine Below.drew ?_ | refine below_drewN ?_ _ | refine bset ?_ (by simp <;> omega) _ | refine bal ?_ _)) hb5; clear hBc; have hBc := hBd; clear hBd); have HV5 := Lib.hid hv5; have hw5 := Below.refl w5.heap.size w5; obtain ⟨n5, a5, c5, l5, rfl, -⟩ := hv5; unfold iv at *)
      | (go_at_call 65; refine (sc _ _ ?_ ?_).mono ?_; (refine bthen hB ?_; (repeat (first | exact Below.refl _ _ | exact hBc | refine Below.drew ?_ | refine below_drewN ?_ _ | refine bset ?_ (by simp <;> omega) _ | refine bal ?_ _))); (refine HV5.out.keep ?_; (repeat (first | exact Below.refl _ _ | exact hw5 | refine Below.drew ?_ | refine below_drewN ?_ _ | refine bset ?_ (by simp <;> omega) _ | refine bal ?_ _))); rintro e w6 ⟨rfl, hb6⟩; (have hBd : Below w1.heap.size w1 w6 := bthen (by repeat (first | exact Below.refl _ _ | exact hBc | refine Below.drew ?_ | refine below_drewN ?_ _ | refine bset ?_ (by simp <;> omega) _ | refine bal ?_ _)) hb6; clear hBc; have hBc := hBd; clear hBd))
      | fail)
  all_goals
    clear mc sc
    have hB6 := bthen hB hBc
    go_wp2
    go_ret
    exact ⟨rfl, by repeat (first | exact Below.refl _ _ | exact hB6 | refine Below.drew ?_ | refine below_drewN ?_ _ | refine bset ?_ (by simp <;> omega) _ | refine bal ?_ _)⟩
set_option maxRecDepth 100000 in
set_option maxHeartbeats 4000000 in
/-- rows that are the same -/
theorem is_c (va vb : Value) (l : List Int) (k : Nat) (w : World) (ha : PRow 0 w va l) (hb : RRow 0 w vb l) (bl : ∀ j, Bd k (l.getD j 0)) (hk : k ≤ 4294967296) (hl : l.length ≤ 1099511627775) :
    Calls Tryz.prog 18 #[va, vb] w fun e w' => e = .returned (.bool true) ∧ Below w.heap.size w w' := by
  have HA := Lib.hid ha
  have HBB := Lib.hid hb
  have HBD := Lib.hid bl
  obtain ⟨aa, ca, rfl, -⟩ := ha
  obtain ⟨ab, cb, rfl, -⟩ := hb
  clear bl
  have hB := Below.refl w.heap.size w
  have hnn : ((l.length : Int) != (l.length : Int)) = false := by simp
  go_enter Tryz.func18, Tryz.ntmps18
  go_wp2
  go_loopw [5] (fun x wr => ∃ j : Nat, j ≤ l.length ∧ x = .int .i64 j ∧ Below w.heap.size w wr) (fun x _ => l.length - (intOf x).toNat)
  case atStart => exact ⟨0, Nat.zero_le _, rfl, hB⟩
  case round =>
    obtain ⟨j, hj, rfl, hBr⟩ := hrel
    by_cases hlt : j < l.length
    · have hltI : (j : Int) < (l.length : Int) := by omega
      obtain ⟨a', c', he, -, vr⟩ := HA.out.view
      obtain ⟨rfl, -, rfl⟩ := Value.slice.inj he
      obtain ⟨b', d', he2, -, vs⟩ := HBB.out.view
      obtain ⟨rfl, -, rfl⟩ := Value.slice.inj he2
      obtain ⟨rb, ro, n3, a3, l3, c3, rfl, r0, r1, hi⟩ := vr j hlt
      obtain ⟨sb, so, n4, a4, l4, c4, rfl, s0, s1, hi2⟩ := vs j hlt
      have oc := fun W (h : Below wr.heap.size wr W) => one_c _ _ (l.getD j 0) (l.getD j 0) k W (hi.keep (bthen hBr h)) (hi2.keep (bthen hBr h)) (HBD.out j) hk
      rw [show decide (l.getD j 0 = l.getD j 0) = true by simp] at oc
      have HS := Lib.hid (show ∀ W, Below wr.heap.size wr W → W.cell? ⟨rb, ro + j * 2, none⟩ = some (.bool n3) ∧ W.cell? ⟨rb, ro + j * 2 + 1, none⟩ = some (.slice a3 l3 c3) ∧ W.cell? ⟨sb, so + j * 2, none⟩ = some (.bool n4) ∧ W.cell? ⟨sb, so + j * 2 + 1, none⟩ = some (.slice a4 l4 c4) from fun W h => ⟨bkeep (bthen hBr h) r0, bkeep (bthen hBr h) r1, bkeep (bthen hBr h) s0, bkeep (bthen hBr h) s1⟩)
      have hBc := Below.refl wr.heap.size wr
      obtain ⟨q5, q6, q7, q8⟩ := HS.out wr hBc
      have zz5 := cell_lt q5
      have zz7 := cell_lt q7
      clear hi hi2 r0 r1 s0 s1 vr vs he he2
      go_wp2
      go_region_held3 (fun w' => w'.cell? ⟨rb, ro + j * 2, none⟩ = some (.bool n3) ∧ w'.cell? ⟨rb, ro + j * 2 + 1, none⟩ = some (.slice a3 l3 c3) ∧ w'.cell? ⟨sb, so + j * 2, none⟩ = some (.bool n4) ∧ w'.cell? ⟨sb, so + j * 2 + 1, none⟩ = some (.slice a4 l4 c4))
        (first | (refine HS.out _ ?_; (repeat (first | exact Below.refl _ _ | exact hBc | refine Below.drew ?_ | refine below_drewN ?_ _ | refine bset ?_ (by simp <;> omega) _ | refine bal ?_ _)); done) | fail)
        (first
          | (go_at_call 17; refine (oc _ ?_).mono ?_; (repeat (first | exact Below.refl _ _ | exact hBc | refine Below.drew ?_ | refine below_drewN ?_ _ | refine bset ?_ (by simp <;> omega) _ | refine bal ?_ _)); rintro e w5 ⟨rfl, hb5⟩; (have hBd : Below wr.heap.size wr w5 := bthen (by repeat (first | exact Below.refl _ _ | exact hBc | refine Below.drew ?_ | refine below_drewN ?_ _ | refine bset ?_ (by simp <;> omega) _ | refine bal ?_ _)) hb5; clear hBc; have hBc := hBd; clear hBd))
          | fail)
      all_goals
        have hB5 := bthen hBr hBc
        clear oc q5 q6 q7 q8
        go_wp2
        exact ⟨⟨j + 1, by omega, by go_num, by repeat (first | exact Below.refl _ _ | exact hB5 | refine Below.drew ?_ | refine below_drewN ?_ _ | refine bset ?_ (by simp <;> omega) _ | refine bal ?_ _)⟩, by simp [intOf]; omega⟩
    · obtain rfl : j = l.length := by omega
      go_wp2
      go_ret
      exact ⟨rfl, hBr⟩
end Go.Proofs.YtannhpadoooedaaGreatDoor

/- Ranges over functions whose told values lie in memory: what is told is known to be right where it is told. -/
namespace Go.Proofs.YtannhpadoooedaaGreatDoor
open Go.ChangeShapes Go.WideShapes Go.ChangeAt Go.RowKit
set_option linter.unusedVariables false
set_option linter.unusedSimpArgs false
/-- blocks outside X lie as they lay; those of X are of the types that they were of -/
def OutT (X : Nat → Prop) (a b : World) : Prop := Out X a b ∧ ∀ q, X q → q < a.heap.size → typOf b q = typOf a q
/-- the iterator's promise: it tells m values, each of which is as A says; between them the world goes on by Cl -/
def IterV (P : Program) (gf : Nat) (lb : Array Value) (A : Nat → Array Value → World → Prop) (m : Nat) (Xs : Array Value → Nat → Prop) (Cl : World → World → Prop) (G : World → Prop) : Prop :=
  ∀ (l : Nat) (J Jx : Nat → World → Prop) (W : World), G W → (∀ k X Y, J k X → Cl X Y → KeepsOthers X Y → J k Y) → (∀ k X Y, Jx k X → Cl X Y → KeepsOthers X Y → Jx k Y) →
    (∀ k args X, k < m → J k X → A k args X → YieldAt Fence.wide 7 P l args X fun e Y => (e = .returned (.bool true) ∧ J (k + 1) Y ∧ OutT (Xs args) X Y) ∨ (e = .returned (.bool false) ∧ Jx (k + 1) Y)) →
    J 0 W → CallsIn Fence.wide 8 P gf (#[.func (.yield l) #[] #[]] ++ lb) W fun e Y => (∃ v, e = .returned v) ∧ (J m Y ∨ ∃ k, k ≤ m ∧ Jx k Y)
/-- how a round's body may end -/
def postV (X0 : Nat → Prop) (I : Nat → World → Prop) (Ix : Code → Nat → World → Prop) (k : Nat) (X : World) : Exit → Act → World → Prop
  | .normal, _, Y => OutT X0 X Y ∧ I k Y
  | .ret, _, Y => OutT X0 X Y ∧ Ix .ret k Y
  | .exit id, _, Y => OutT X0 X Y ∧ Ix (.exit id) k Y
  | .goto t, _, Y => OutT X0 X Y ∧ Ix (.goto t) k Y
  | .panic _, _, _ => False
  | .outgrown, _, _ => False
theorem wp_rangeV {P : Program} {g : Operand} {ps : Array Tmp} {assign body : Code} {Q : Exit → Act → World → Prop} {a : Act} {w : World}
    {gf : Nat} {lb : Array Value} (hg : a.eval g = .func (.func gf) #[] lb) (eg : ∀ args w, (callFunc gf args).run P w = .ok (.enter gf args) w)
    {A : Nat → Array Value → World → Prop} {m : Nat} {Xs : Array Value → Nat → Prop} {Cl : World → World → Prop} {G : World → Prop} (hseq : IterV P gf lb A m Xs Cl G)
    (cA : ∀ (X : World) (o : Obj), w.heap.size ≤ X.heap.size → Cl X (X.alloc o))
    (cP : ∀ (X : World) (l : Nat) (o o' : Obj), w.heap.size ≤ l → X.heap[l]? = some o → o.isCells = false → o.isWalk = false → Cl X (X.putObj l o'))
    (hG : ∀ W, Below w.heap.size w W → G W) (hps : ∀ k args X, A k args X → args.size = ps.size)
    (I : Nat → World → Prop) (Ix : Code → Nat → World → Prop) (hI : ∀ k X Y, I k X → Cl X Y → I k Y) (hIx : ∀ c k X Y, Ix c k X → Cl X Y → Ix c k Y) (h0 : I 0 w)
    (Ax : Array Value → Nat → Array Value → Act → World → Prop) (hAx : ∀ k args a' (X : World) (l : Nat) (o o' : Obj), w.heap.size ≤ l → X.heap[l]? = some o → o.isCells = false → Ax a.tmps k args a' X → Ax a.tmps k args a' (X.putObj l o'))
    (hXs : ∀ k args X q, I k X → A k args X → Xs args q → ∃ o, X.heap[q]? = some o ∧ o.isCells = true)
    (hassign : ∀ (l k : Nat) (args : Array Value) (X : World) (K : Act → World → Prop), k < m → I k X → A k args X → (∀ a' Y, Below X.heap.size X Y → I k Y → Ax a.tmps k args a' Y → K a' Y) →
      assign.wpIn (Fence.wide.inRound l) 7 P (Exit.then K (fun _ _ _ => False)) { tmps := (ps.zip args).foldl (fun t (p, v) => t.setIfInBounds p v) a.tmps, defers := [] } X)
    (hbody : ∀ (l k : Nat) (args : Array Value) (a' : Act) (X : World), k < m → I k X → Ax a.tmps k args a' X → body.wpIn (Fence.wide.inRound l) 7 P (postV (Xs args) I Ix (k + 1) X) a' X)
    (hdone : ∀ (D : Nat) (Y : World), w.heap.size ≤ D → I m Y → Y.heap[D]? = some (.deferred (some [])) → Q .normal { a with defers := { target := .collected D, args := #[] } :: a.defers } Y)
    (hstop : ∀ (D : Nat) (c : Code) (k : Nat) (Y : World), w.heap.size ≤ D → k ≤ m → Ix c k Y → Y.heap[D]? = some (.deferred (some [])) → c.wp P Q { a with defers := { target := .collected D, args := #[] } :: a.defers } Y) :
    (Code.rangeFunc g ps assign body).wp P Q a w := by
  refine (wpIn_wide (n := 9)).1 (wpIn_rangeFunc fun fn hfn => ?_)
  -- the record of the loop, and the block for what is put off
  let R : LoopState → Option Code → Loop := fun st pe => { state := st, pending := pe, fn, tmps := a.tmps, params := ps, assign, body, defers := w.heap.size }
  have eR : ∀ st pe, R st pe = { state := st, pending := pe, fn, tmps := a.tmps, params := ps, assign, body, defers := w.heap.size } := fun _ _ => rfl
  generalize hl : w.heap.size + 1 = l
  have hlw : w.heap.size ≤ l := by omega
  let V : World := (w.alloc (.deferred (some []))).alloc (.loop (R .ready none))
  have rec0 : V.heap[l]? = some (.loop (R .ready none)) := by
    have h := World.alloc_heap_new (w.alloc (.deferred (some []))) (.loop (R .ready none))
    rw [World.size_alloc, hl] at h
    exact h
  have put0 : V.heap[w.heap.size]? = some (.deferred (some [])) := (Below.heap_alloc _ _ _ (by simp)).trans (World.alloc_heap_new w _)
  have bV : Below w.heap.size w V := bal (bal (Below.refl _ _) _) _
  refine ⟨l, [{ target := .collected w.heap.size, args := #[] }], V, { target := .fn (.func gf) lb, args := #[.func (.yield l) #[] #[]] }, V, gf, #[.func (.yield l) #[] #[]] ++ lb, V, ?_, ?_, fun f' _ => trivial, ?_, fun _ => by omega, ?_⟩
  · have h := run_enterLoop_outer (P := P) (w := w) fn a.tmps ps assign body
    rw [hl] at h
    exact h
  · simp only [resolve, hg]
    simp [go_sem]
  · simp [invoke, go_sem, eg]
  let J : Nat → World → Prop := fun k X => I k X ∧ X.heap[l]? = some (.loop (R .ready none)) ∧ X.heap[w.heap.size]? = some (.deferred (some []))
  let Jx : Nat → World → Prop := fun k X => ∃ c, Ix c k X ∧ X.heap[l]? = some (.loop (R .done (some c))) ∧ X.heap[w.heap.size]? = some (.deferred (some []))
  refine (hseq l J Jx V (hG V bV) ?_ ?_ ?_ ⟨hI 0 _ _ (hI 0 _ _ h0 (cA _ _ (Nat.le_refl _))) (cA _ _ (by simp)), rec0, put0⟩).mono ?_
  · rintro k X Y ⟨h1, h2, h3⟩ hc hk
    exact ⟨hI k X Y h1 hc, hk.same _ _ h2 rfl, hk.same _ _ h3 rfl⟩
  · rintro k X Y ⟨c, h1, h2, h3⟩ hc hk
    exact ⟨c, hIx c k X Y h1 hc, hk.same _ _ h2 rfl, hk.same _ _ h3 rfl⟩
  · -- one round
    rintro k args X hkm ⟨h1, h2, h3⟩ hA
    have nX : ∀ q o, X.heap[q]? = some o → o.isCells = false → ¬ Xs args q := fun q o hq ho hx => by
      obtain ⟨o', ho', hc⟩ := hXs k args X q h1 hA hx
      rw [hq] at ho'; cases ho'; rw [ho] at hc; cases hc
    have nl : ¬ Xs args l := nX _ _ h2 rfl
    have nd : ¬ Xs args w.heap.size := nX _ _ h3 rfl
    have hy := run_yield (P := P) (args := args) h2 (hps k args X hA)
    refine ⟨fn, _, assign, body, hy, roundIn_of_wpIn hfn (hassign l k args X _ hkm h1 hA ?_)⟩
    intro a' X1 hb i1 ax
    have hlX : l < X.heap.size := (Array.getElem?_eq_some_iff.1 h2).1
    have l1 : X1.heap[l]? = some (.loop (R .ready none)) := (hb.block _ hlX).trans h2
    have d1 : X1.heap[w.heap.size]? = some (.deferred (some [])) := (hb.block _ (Array.getElem?_eq_some_iff.1 h3).1).trans h3
    have hl1 : l < X1.heap.size := (Array.getElem?_eq_some_iff.1 l1).1
    refine ⟨_, run_beginRound l1 rfl, ?_⟩
    have cb : Cl X1 (X1.putObj l (.loop { R .ready none with state := .busy })) := cP _ _ _ _ hlw l1 rfl rfl
    have l2 : (X1.putObj l (.loop { R .ready none with state := .busy })).heap[l]? = some (.loop { R .ready none with state := .busy }) := World.putObj_heap_same hl1
    have o2 : ∀ b, b ≠ l → (X1.putObj l (.loop { R .ready none with state := .busy })).heap[b]? = X1.heap[b]? := fun b hb => World.putObj_heap_other hb
    have s2 : (X1.putObj l (.loop { R .ready none with state := .busy })).heap.size = X1.heap.size := by simp [World.putObj]
    refine wpIn_mono (hbody l k args a' _ hkm (hI k _ _ i1 cb) (hAx k args a' _ _ _ _ hlw l1 rfl ax)) ?_
    have fin : ∀ (jump : Option Code) (Y : World), OutT (Xs args) (X1.putObj l (.loop { R .ready none with state := .busy })) Y →
        (Instr.endRound l jump).run P Y = .ok (.bool jump.isNone) (Y.putObj l (.loop (R (if jump.isNone then .ready else .done) jump))) ∧ Cl Y (Y.putObj l (.loop (R (if jump.isNone then .ready else .done) jump))) ∧
        (Y.putObj l (.loop (R (if jump.isNone then .ready else .done) jump))).heap[l]? = some (.loop (R (if jump.isNone then .ready else .done) jump)) ∧ (Y.putObj l (.loop (R (if jump.isNone then .ready else .done) jump))).heap[w.heap.size]? = some (.deferred (some [])) := fun jump Y hoT => by
      have ho := hoT.1
      have lY : Y.heap[l]? = some (.loop { R .ready none with state := .busy }) := (ho.block _ (by rw [s2]; exact hl1) nl).trans l2
      refine ⟨run_endRound (P := P) jump lY, cP _ _ _ _ hlw lY rfl rfl, World.putObj_heap_same (Array.getElem?_eq_some_iff.1 lY).1, ?_⟩
      rw [World.putObj_heap_other (by omega), ho.block _ (by rw [s2]; exact (Array.getElem?_eq_some_iff.1 d1).1) nd, o2 _ (by omega), d1]
    rintro e a3 Y hp
    cases e with
    | normal =>
      obtain ⟨ho, i3⟩ := hp
      obtain ⟨hr, hc, e1, e2⟩ := fin none Y ho
      obtain ⟨ho, ht⟩ := ho
      refine ⟨_, _, hr, .inl ⟨rfl, ⟨hI _ _ _ i3 hc, e1, e2⟩, ⟨ho.os.trans hb.os, ho.tape.trans hb.tape, ho.output.trans hb.output, ?_, fun i hi hx => ?_⟩, fun q hq hqs => ?_⟩⟩
      · have := ho.size; have := hb.size; simp [World.putObj] at *; omega
      · by_cases e : i = l
        · subst e; exact e1.trans h2.symm
        · rw [World.putObj_heap_other e, ho.block _ (by rw [s2]; have := hb.size; omega) hx, o2 _ e, hb.block _ hi]
      · have e : q ≠ l := fun e => nl (e ▸ hq)
        have t1 : typOf (Y.putObj l (.loop (R (if (none : Option Code).isNone then .ready else .done) none))) q = typOf Y q := by unfold typOf; rw [World.putObj_heap_other e]
        have t2 := ht q hq (by rw [s2]; have := hb.size; omega)
        have t3 : typOf (X1.putObj l (.loop { R .ready none with state := .busy })) q = typOf X1 q := by unfold typOf; rw [o2 _ e]
        have t4 : typOf X1 q = typOf X q := by unfold typOf; rw [hb.block _ hqs]
        exact (t1.trans t2).trans (t3.trans t4)
    | ret =>
      obtain ⟨ho, i3⟩ := hp
      obtain ⟨hr, hc, e1, e2⟩ := fin (some .ret) Y ho
      exact ⟨_, _, hr, .inr ⟨rfl, .ret, hIx _ _ _ _ i3 hc, e1, e2⟩⟩
    | exit id =>
      obtain ⟨ho, i3⟩ := hp
      obtain ⟨hr, hc, e1, e2⟩ := fin (some (.exit id)) Y ho
      exact ⟨_, _, hr, .inr ⟨rfl, .exit id, hIx _ _ _ _ i3 hc, e1, e2⟩⟩
    | goto t =>
      obtain ⟨ho, i3⟩ := hp
      obtain ⟨hr, hc, e1, e2⟩ := fin (some (.goto t)) Y ho
      exact ⟨_, _, hr, .inr ⟨rfl, .goto t, hIx _ _ _ _ i3 hc, e1, e2⟩⟩
    | panic ch => exact hp.elim
    | outgrown => exact hp.elim
  · -- behind it
    rintro e Y ⟨⟨v, rfl⟩, h⟩
    rcases h with ⟨i1, l1, d1⟩ | ⟨k, hk, c, i1, l1, d1⟩
    · refine ⟨none, _, run_endLoop (P := P) l1 (by simp [R]), hdone _ _ (Nat.le_refl _) (hI _ _ _ i1 (cP _ _ _ _ hlw l1 rfl rfl)) ?_⟩
      rw [World.putObj_heap_other (by omega)]; exact d1
    · refine ⟨some c, _, run_endLoop (P := P) l1 (by simp [R]), wpIn_wide.2 (hstop _ c k _ (Nat.le_refl _) hk (hIx _ _ _ _ i1 (cP _ _ _ _ hlw l1 rfl rfl)) ?_)⟩
      rw [World.putObj_heap_other (by omega)]; exact d1
end Go.Proofs.YtannhpadoooedaaGreatDoor

/- The reference's numbers: Sub; Add and Sub of numbers no greater than one of so many digits. -/
namespace Go.Proofs.YtannhpadoooedaaGreatDoor
open Num
open Go.ChangeShapes Go.WideShapes Go.ChangeAt Go.RowKit
set_option linter.unusedVariables false
set_option linter.unusedSimpArgs false
/-- a number of at most so many digits, by its size -/
theorem rlen_le {l B : List Nat} (hn : Nrm l) (hB : NumR.Limbs B) (h : NumR.val l ≤ NumR.val B) : l.length ≤ B.length := by
  apply Nat.le_of_not_lt; intro hl
  have := NumR.val_lt_of_len hB hn hl
  omega
theorem radd_n (vx vy : Value) (x y : Int) (B : List Nat) (w : World) (hx : IsRef w vx x) (hy : IsRef w vy y) (hB : NumR.Limbs B) (bx : x.natAbs ≤ NumR.val B) (by' : y.natAbs ≤ NumR.val B) (hk : B.length ≤ 2147483650) :
    Calls Tryz.prog 147 #[vx, vy] w fun e w' => (∃ v, e = .returned v ∧ IsRef w' v (x + y)) ∧ Below w.heap.size w w' := by
  obtain ⟨n1, a1, c1, l1, rfl, u1, q1, g1, s1, rfl⟩ := hx
  obtain ⟨n2, a2, c2, l2, rfl, u2, q2, g2, s2, rfl⟩ := hy
  rw [sg_abs] at bx by'
  exact raddV_c n1 n2 a1 a2 c1 c2 l1 l2 w u1 u2 q1 q2 g1 g2 (Nat.le_trans (rlen_le g1 hB bx) hk) (Nat.le_trans (rlen_le g2 hB by') hk)
set_option maxRecDepth 100000 in
set_option maxHeartbeats 2000000 in
theorem rsub_n (vx vy : Value) (x y : Int) (B : List Nat) (w : World) (hx : IsRef w vx x) (hy : IsRef w vy y) (hB' : NumR.Limbs B) (bx : x.natAbs ≤ NumR.val B) (by' : y.natAbs ≤ NumR.val B) (hk : B.length ≤ 2147483650) :
    Calls Tryz.prog 163 #[vx, vy] w fun e w' => (∃ v, e = .returned v ∧ IsRef w' v (x - y)) ∧ Below w.heap.size w w' := by
  have nx := fun W (k : Below w.heap.size w W) => rneg_c vy y W (hy.keep k)
  have ad := fun vz W (k : Below w.heap.size w W) (hz : IsRef W vz (-y)) => radd_n vx vz x (-y) B W (hx.keep k) hz hB' bx (by rw [Int.natAbs_neg]; exact by') hk
  obtain ⟨n1, a1, c1, l1, rfl, -⟩ := hx
  obtain ⟨n2, a2, c2, l2, rfl, -⟩ := hy
  unfold iv at *
  have HE := Lib.hid (show x + -y = x - y by omega)
  clear bx by' hk hB'
  have hB := Below.refl w.heap.size w
  go_enter Tryz.func163, Tryz.ntmps163
  go_wp2
  refine wp_name fun w0 hW0 => ?_
  have x0 : w0.cell? ⟨w.heap.size, 0, none⟩ = some (.bool n1) := by rw [hW0]; exact (by first | assumption | exact cell_new (by with_reducible first | rfl | (simp; done) | (simp; omega)) rfl | (repeat (first | assumption | exact cell_new (by with_reducible first | rfl | (simp; done) | (simp; omega)) rfl | refine cell_alloc ?_ _ | refine cell_drew ?_ | refine cell_drewN ?_ _ | refine cell_far ?_ (by simp) _ | (refine cell_far ?_ (by simp <;> omega) _))) | simp [go_sem, *])
  have zx0 := cell_lt x0
  have x1 : w0.cell? ⟨w.heap.size, 1, none⟩ = some (.slice a1 l1.length c1) := by rw [hW0]; exact (by first | assumption | exact cell_new (by with_reducible first | rfl | (simp; done) | (simp; omega)) rfl | (repeat (first | assumption | exact cell_new (by with_reducible first | rfl | (simp; done) | (simp; omega)) rfl | refine cell_alloc ?_ _ | refine cell_drew ?_ | refine cell_drewN ?_ _ | refine cell_far ?_ (by simp) _ | (refine cell_far ?_ (by simp <;> omega) _))) | simp [go_sem, *])
  have y0 : w0.cell? ⟨w.heap.size + 1, 0, none⟩ = some (.bool n2) := by rw [hW0]; exact (by first | assumption | exact cell_new (by with_reducible first | rfl | (simp; done) | (simp; omega)) rfl | (repeat (first | assumption | exact cell_new (by with_reducible first | rfl | (simp; done) | (simp; omega)) rfl | refine cell_alloc ?_ _ | refine cell_drew ?_ | refine cell_drewN ?_ _ | refine cell_far ?_ (by simp) _ | (refine cell_far ?_ (by simp <;> omega) _))) | simp [go_sem, *])
  have zy0 := cell_lt y0
  have y1 : w0.cell? ⟨w.heap.size + 1, 1, none⟩ = some (.slice a2 l2.length c2) := by rw [hW0]; exact (by first | assumption | exact cell_new (by with_reducible first | rfl | (simp; done) | (simp; omega)) rfl | (repeat (first | assumption | exact cell_new (by with_reducible first | rfl | (simp; done) | (simp; omega)) rfl | refine cell_alloc ?_ _ | refine cell_drew ?_ | refine cell_drewN ?_ _ | refine cell_far ?_ (by simp) _ | (refine cell_far ?_ (by simp <;> omega) _))) | simp [go_sem, *])
  have r0f : w0.frozen? ⟨w.heap.size + 2, 0, none⟩ = false := by rw [hW0]; simp [go_sem, *]
  have r0 : w0.cell? ⟨w.heap.size + 2, 0, none⟩ = some (.bool false) := by rw [hW0]; exact (by first | assumption | exact cell_new (by with_reducible first | rfl | (simp; done) | (simp; omega)) rfl | (repeat (first | assumption | exact cell_new (by with_reducible first | rfl | (simp; done) | (simp; omega)) rfl | refine cell_alloc ?_ _ | refine cell_drew ?_ | refine cell_drewN ?_ _ | refine cell_far ?_ (by simp) _ | (refine cell_far ?_ (by simp <;> omega) _))) | simp [go_sem, *])
  have zr0 := cell_lt r0
  have r1f : w0.frozen? ⟨w.heap.size + 2, 1, none⟩ = false := by rw [hW0]; simp [go_sem, *]
  have r1 : w0.cell? ⟨w.heap.size + 2, 1, none⟩ = some (.slice none 0 0) := by rw [hW0]; exact (by first | assumption | exact cell_new (by with_reducible first | rfl | (simp; done) | (simp; omega)) rfl | (repeat (first | assumption | exact cell_new (by with_reducible first | rfl | (simp; done) | (simp; omega)) rfl | refine cell_alloc ?_ _ | refine cell_drew ?_ | refine cell_drewN ?_ _ | refine cell_far ?_ (by simp) _ | (refine cell_far ?_ (by simp <;> omega) _))) | simp [go_sem, *])
  have hB : Below w.heap.size w w0 := by rw [hW0]; repeat (first | exact Below.refl _ _ | exact hB | refine Below.drew ?_ | refine below_drewN ?_ _ | refine bset ?_ (by simp <;> omega) _ | refine bal ?_ _)
  have hz : w.heap.size ≤ w0.heap.size := hB.size
  clear hW0
  have hBc : Below w0.heap.size w0 w0.drew := (Below.refl _ _).drew
  have HB0 := Lib.hid hB
  go_region_held3 (fun w' => w'.cell? ⟨w.heap.size, 0, none⟩ = some (.bool n1) ∧ w'.cell? ⟨w.heap.size, 1, none⟩ = some (.slice a1 l1.length c1) ∧ w'.cell? ⟨w.heap.size + 1, 0, none⟩ = some (.bool n2) ∧ w'.cell? ⟨w.heap.size + 1, 1, none⟩ = some (.slice a2 l2.length c2))
    (first | exact ⟨x0, x1, y0, y1⟩ | exact ⟨bkeep hBc x0, bkeep hBc x1, bkeep hBc y0, bkeep hBc y1⟩ | exact ⟨cell_far (cell_far (bkeep hBc x0) (addr_ne (by omega)) _) (addr_ne (by omega)) _, cell_far (cell_far (bkeep hBc x1) (addr_ne (by omega)) _) (addr_ne (by omega)) _, cell_far (cell_far (bkeep hBc y0) (addr_ne (by omega)) _) (addr_ne (by omega)) _, cell_far (cell_far (bkeep hBc y1) (addr_ne (by omega)) _) (addr_ne (by omega)) _⟩)
    (first
      | (go_at_call 162; refine (nx _ (bthen HB0.out hBc)).mono ?_; rintro e w3 ⟨⟨v3, rfl, hi3⟩, hb3⟩; (replace hBc := bthen hBc hb3); (have HI3 := Lib.hid hi3); clear hi3)
      | (go_at_call 147; refine (ad _ _ (bthen HB0.out hBc) HI3.out).mono ?_; rintro e w4 ⟨⟨v, rfl, hi⟩, hb4⟩; (replace hBc := bthen hBc hb4); (replace r0f := bkeepf hBc r0 r0f); (replace r1f := bkeepf hBc r1 r1f); (replace r0 := bkeep hBc r0); (replace r1 := bkeep hBc r1); (have HI2 := Lib.hid (hi.put2 r0 r1)); (obtain ⟨n4, a4, c4, l4, rfl, _, _, _, _⟩ := hi); unfold iv at *))
  have hB9 := bthen HB0.out hBc
  clear x0 x1 y0 y1
  rw [HE.out] at HI2
  go_wp2
  refine bodyPost_ret (v := .agg #[.bool n4, .slice a4 l4.length c4]) (by simp [results, Tryz.results163, go_sem, *]) rfl ⟨⟨_, rfl, HI2.out _ _⟩, ?_⟩
  repeat (first | exact Below.refl _ _ | exact hB9 | refine Below.drew ?_ | refine below_drewN ?_ _ | refine bset ?_ (by simp <;> omega) _ | refine bal ?_ _)
end Go.Proofs.YtannhpadoooedaaGreatDoor

/- row: Over. -/
namespace Go.Proofs.YtannhpadoooedaaGreatDoor
open Num
open Go.ChangeShapes Go.WideShapes Go.ChangeAt Go.RowKit
set_option linter.unusedVariables false
set_option linter.unusedSimpArgs false
attribute [local go_sem ↓] Go.wp_at_zero Go.wp_at_succ
/-- what Over answers where the divisor is not 0 -/
def OverPost (l : List Int) (c : Int) (w : World) (e : Ending) (w' : World) : Prop :=
  (((∃ j, j < l.length ∧ l.getD j 0 % c ≠ 0) ∧ e = .returned (.tuple #[.slice none 0 0, .int .i64 20])) ∨
   ((∀ j, j < l.length → l.getD j 0 % c = 0) ∧ ∃ u, e = .returned (.tuple #[u, .int .i64 0]) ∧ RowO IsInt 48 w.heap.size w' u (l.map fun x => x / c))) ∧ Below w.heap.size w w'
end Go.Proofs.YtannhpadoooedaaGreatDoor

/- exact: how rows are calculated with; what an instruction does to rows (do). -/
namespace Go.Proofs.YtannhpadoooedaaGreatDoor
open Num
open Go.ChangeShapes Go.WideShapes Go.ChangeAt Go.RowKit
set_option linter.unusedVariables false
set_option linter.unusedSimpArgs false
attribute [local go_sem ↓] Go.wp_at_zero Go.wp_at_succ
theorem zip_getD {f : Int → Int → Int} {a b : List Int} {k : Nat} (h1 : k < a.length) (h2 : k < b.length) : (List.zipWith f a b).getD k 0 = f (a.getD k 0) (b.getD k 0) := by
  simp [List.getD_eq_getElem?_getD, List.getElem?_zipWith, h1, h2]
theorem stepR_map {i : Ins} {a b : List Int} (g : Int → Int) (h : ∀ k, k < a.length → opI i (a.getD k 0) (b.getD k 0) = some (g (a.getD k 0))) : stepR i a b = some (a.map g) :=
  stepR_ext (by simp) fun k hk => by rw [h k hk, map_getD g hk]
theorem stepR_zip {i : Ins} {a b : List Int} (g : Int → Int → Int) (he : a.length = b.length) (h : ∀ k, k < a.length → opI i (a.getD k 0) (b.getD k 0) = some (g (a.getD k 0) (b.getD k 0))) : stepR i a b = some (List.zipWith g a b) :=
  stepR_ext (by simp; omega) fun k hk => by rw [h k hk, zip_getD hk (by omega)]
theorem stepR_self {i : Ins} {a b : List Int} (h : ∀ k, k < a.length → opI i (a.getD k 0) (b.getD k 0) = some (a.getD k 0)) : stepR i a b = some a := stepR_ext rfl h
/-- answers a row (that is ua, or lies in a block of its own) and true, or something and false -/
def AnsL (ua : Value) (z : Option (List Int)) (w : World) (e : Ending) (w' : World) : Prop :=
  (match z with
    | some r => ∃ v, e = .returned (.tuple #[v, .bool true]) ∧ PRow 0 w' v r ∧ (v = ua ∨ PRow w.heap.size w' v r)
    | none => ∃ a n c, e = .returned (.tuple #[.slice a n c, .bool false])) ∧ Below w.heap.size w w'
end Go.Proofs.YtannhpadoooedaaGreatDoor

/- vm's laws: are blocks of the program those of the reference? -/
namespace Go.Proofs.YtannhpadoooedaaGreatDoor
open Num
open Go.ChangeShapes Go.WideShapes Go.ChangeAt Go.RowKit
set_option linter.unusedVariables false
set_option linter.unusedSimpArgs false
attribute [local go_sem ↓] Go.wp_at_zero Go.wp_at_succ
end Go.Proofs.YtannhpadoooedaaGreatDoor

