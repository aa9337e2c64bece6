/- Texts of this seat, laid together: MxO, TxtL, TxtI, TxtJ, MxT, MwA, MwB, MwC, MwJ, MwK, MwG, MwH. What each theorem proves, and under which conditions, its statement says. -/
import Derived.Test.YtbmaffijncapiaaGreatDoorB14
import Derived.Laws.RangeString
import Derived.Lib.OthersKept
import Derived.Maps.AppendAt
set_option maxRecDepth 100000
set_option maxHeartbeats 32000000
set_option linter.unusedVariables false
set_option linter.unusedSimpArgs false
namespace Go.Proofs.YtbmaffijncapiaaGreatDoor
open Go.ChangeShapes Go.WideShapes Go.ChangeAt Go.RowKit
section
open Num
attribute [local go_sem ↓] Go.wp_at_zero Go.wp_at_succ
theorem prow_out {base : Nat} {w w' : World} {v : Value} {l : List Int} {X : Nat → Prop} (h : PRow base w v l) (ho : Out X w w') (hx : ∀ k, base ≤ k → ¬ X k) (hl : Lim w w') : PRow base w' v l := by
 obtain ⟨a, c, e, h1, h2, h3⟩ := h
 refine ⟨a, c, e, h1, h2, ?_⟩
 rcases h3 with h3 | ⟨b, off, e2, hb, ht, hi⟩
 · exact .inl h3
 · exact .inr ⟨b, off, e2, hb, by rw [typ_of_block (w := w) (ho.block b (typ_lt ht) (hx b hb))]; exact ht, hi.out lims_int ho (hx b hb) hl⟩
theorem IsM.out {base : Nat} {w w' : World} {v : Value} {g : Grid} {X : Nat → Prop} (h : IsM base w v g) (ho : Out X w w') (hx : ∀ k, base ≤ k → ¬ X k) (hl : Lim w w') : IsM base w' v g := by
 obtain ⟨a, c, e, a', c', e2, h1, h2, h3⟩ := h
 refine ⟨a, c, e, a', c', e2, h1, h2, ?_⟩
 rcases h3 with h3 | ⟨b, off, e2, hb, ht, hi⟩
 · exact .inl h3
 · refine .inr ⟨b, off, e2, hb, by rw [typ_of_block (w := w) (ho.block b (typ_lt ht) (hx b hb))]; exact ht, fun k hk => ?_⟩
   obtain ⟨u, hu, hp⟩ := hi k hk
   exact ⟨u, okeep ho hu (hx b hb), prow_out hp ho hx hl⟩
section
variable {w w1 : World} {ag : Option Addr} {N cg : Nat} {bv : Value} {db gb : Nat} {d S : Int} {W W' : World}
end
end
section
open Num
theorem app32l {ops : Array Oper} {rest : List Oper} {o : Oper} {a : Act} {Q : Exit → Act → World → Prop} {w0 wr : World} {v : Value} {L X : List Nat} {t : TypeId} (hgd : o.guard = none) {s x : Operand}
 (ho : o.op = .call { callee := .builtin .append, args := #[s, x], argTypes := #[48, 48] }) (hO : Own32 w0 wr v L) (hs : a.eval s = v)
 {c : Nat} (hx : a.eval x = .slice (some ⟨wr.heap.size, 0, none⟩) X.length c) (hn : L.length + X.length ≤ 1099511627776)
 (h : ∀ v' w', Own32 w0 w' v' (L ++ X) → (∀ (ad : Option Addr) (cd : Nat) (M : List Nat), U32 wr ad cd M → (∀ g f, ad = some ⟨g, f, none⟩ → v.ownBlock ≠ some g) → U32 w' ad cd M) → wpList Tryz.prog ops Q rest (a.put o.dst v') w') : wpList Tryz.prog ops Q (o :: rest) a (wr.alloc (.cells (cel X).toArray t)) := by
 obtain ⟨i, z, hi, hz, hsize, hby, hzs⟩ := el32.info
 refine wpList_append_own _ hgd s x 48 ho w0.heap.size 177 i z 1 4 el32.ht hi hz hsize hby hzs el32.pos v L.length (cel L) hs (hO.1.alloc _) ⟨wr.heap.size, 0, none⟩ X.length c (cel X) hx (by rw [cel_len, Nat.mul_one]) (cells_new wr _ t) (cel_one X) (by unfold maxLen; omega) (by omega) (by have := hO.2.size; simp; omega) ?_
 intro v' w' hown hg _
 have ho : Out (fun k => v.ownBlock = some k) wr w' := ((Out.refl _ wr).alloc _).grown hg fun k hk _ => hk
 exact h v' w' ⟨by rw [cel_app, List.length_append]; exact hown, below_append (wr := wr) (bal hO.2 _) (hO.1.alloc _) hg⟩ fun ad cd M hu hne => hu.okeep ho fun q f e hq => hne q f e hq
theorem Bld.keep {B b : Nat} {l : List UInt8} {w w' : World} (h : Bld B b l w) (hb : Below w.heap.size w w') : Bld B b l w' := by
 have key : ∀ p, Lib.BuilderAt 286 5 B b p (Lib.byteCells l) w → Lib.BuilderAt 286 5 B b p (Lib.byteCells l) w' := by
  rintro p ⟨h1, v, h2, h3, h4⟩
  exact ⟨h1, v, (hb.block b (Array.getElem?_eq_some_iff.1 h2).1).trans h2, own_below (w0 := w) h3 hb, h4⟩
 rcases h with h | h
 · exact .inl (key _ h)
 · exact .inr (key _ h)
theorem Bld.new {w : World} {b : Nat} (hb : b = w.heap.size) : Bld b b [] (w.alloc (.cells #[.pointer none, .slice none 0 0] 286)) := by
 subst hb
 exact .inl ⟨Nat.le_refl _, .slice none 0 0, (MapKept.heap_alloc w _).1, World.ownsRow_nil _ _ _ _, by simp [Value.ownBlock]⟩
theorem pcs_len (k : Nat) : ∀ n, n < 2 ^ k → (pcs n).length ≤ k := by
 induction k with
 | zero => intro n h; obtain rfl : n = 0 := by simpa using h
           rw [pcs_zero]; simp
 | succ k ih =>
  intro n h
  by_cases h0 : 0 < n
  · rw [pcs_pos h0]
    have := ih (n / 1000000000) (by rw [Nat.pow_succ] at h; omega)
    simp; exact this
  · obtain rfl : n = 0 := by omega
    rw [pcs_zero]; simp
theorem pcs_bound {l : List Nat} (hl : Limbs l) (h1 : l.length ≤ 67108865) {P Q : List Nat} (h : pcs (val l) = P ++ Q) : P.length ≤ 2147483680 := by
 have h2 := val_lt hl
 rw [BB_pow] at h2
 have h3 := pcs_len _ _ h2
 rw [h, List.length_append] at h3
 omega
def Z9 (j m p : Nat) : List UInt8 := List.replicate j 0 ++ asc (padD m p)
theorem Z9_len (j m p : Nat) : (Z9 j m p).length = j + m := by simp [Z9, asc_len, padD_len]
theorem rep_set (j : Nat) (T : List UInt8) (d : UInt8) : (List.replicate (j + 1) 0 ++ T).set j d = List.replicate j 0 ++ d :: T := by
 induction j with
 | zero => rfl
 | succ j ih =>
  rw [List.replicate_succ, List.cons_append, List.set_cons_succ, ih]; rfl
theorem Z9_step (j m p : Nat) : (Z9 (j + 1) m p).set j (dig (p / 10 ^ m % 10)) = Z9 j (m + 1) p := by
 unfold Z9
 rw [rep_set, padD_snoc, asc_append]; rfl
theorem Z9_end (p : Nat) : Z9 0 9 p = asc (padD 9 p) := rfl
theorem lowP_top {P : List Nat} {k : Nat} (h : k + 1 = P.length) : lowP (P.drop k) = lowD (P.getD k 0) := by
 have e : P.drop k = [P.getD k 0] := by
  rw [List.drop_eq_getElem_cons (by omega), List.drop_eq_nil_of_le (by omega)]
  simp [List.getElem?_eq_getElem (show k < P.length by omega)]
 rw [e]; rfl
theorem lowP_low {P : List Nat} {k : Nat} (h : k + 1 < P.length) : lowP (P.drop k) = padD 9 (P.getD k 0) ++ lowP (P.drop (k + 1)) := by
 rw [List.drop_eq_getElem_cons (by omega), lowP_cons (by intro h0; have := congrArg List.length h0; simp at this; omega)]
 simp [List.getElem?_eq_getElem (show k < P.length by omega)]
theorem lowP_len : ∀ L : List Nat, (∀ x ∈ L, x < 1000000000) → (lowP L).length ≤ 9 * L.length
 | [], _ => by simp [lowP]
 | [p], h => by
  have := (padD_low 9 p (h p (by simp))).2
  simpa [lowP] using this
 | p :: q :: L, h => by
  have := lowP_len (q :: L) (fun x hx => h x (List.mem_cons_of_mem _ hx))
  rw [lowP_cons (by simp), List.length_append, padD_len]
  simp only [List.length_cons] at this ⊢
  omega
theorem zeroArr9 : ∀ w, (zeroValue 300).run Tryz.prog w = .ok (.agg #[.int .u8 0, .int .u8 0, .int .u8 0, .int .u8 0, .int .u8 0, .int .u8 0, .int .u8 0, .int .u8 0, .int .u8 0]) w := fun w => by kernel_rfl
structure Arr9 (w : World) (g : Nat) (Z : List UInt8) : Prop where
 cell : ∀ j, j < 9 → w.cell? ⟨g, j, none⟩ = some (.int .u8 ((Z.getD j 0).toNat : Nat))
 free : ∀ j, w.frozen? ⟨g, j, none⟩ = false
theorem Arr9.new (w : World) (p : Nat) : Arr9 (w.alloc (.cells #[.int .u8 0, .int .u8 0, .int .u8 0, .int .u8 0, .int .u8 0, .int .u8 0, .int .u8 0, .int .u8 0, .int .u8 0] 300)) w.heap.size (Z9 9 0 p) := by
 have hz : ∀ j, (Z9 9 0 p).getD j 0 = 0 := fun j => by
  simp [Z9, asc, padD]
  exact match j with | 0 => rfl | 1 => rfl | 2 => rfl | 3 => rfl | 4 => rfl | 5 => rfl | 6 => rfl | 7 => rfl | 8 => rfl | n + 9 => rfl
 refine ⟨fun j hj => ?_, fun j => by rw [World.frozen?_alloc_at (hn := by simp)]⟩
 rw [hz]
 refine cell_new rfl ?_
 have : j = 0 ∨ j = 1 ∨ j = 2 ∨ j = 3 ∨ j = 4 ∨ j = 5 ∨ j = 6 ∨ j = 7 ∨ j = 8 := by omega
 rcases this with rfl | rfl | rfl | rfl | rfl | rfl | rfl | rfl | rfl <;> rfl
theorem Arr9.set {w : World} {g : Nat} {Z : List UInt8} (h : Arr9 w g Z) (hZ : Z.length = 9) {k : Nat} (hk : k < 9) (x : UInt8) : Arr9 (w.setCell ⟨g, k, none⟩ (.int .u8 (x.toNat : Nat))) g (Z.set k x) := by
 refine ⟨fun j hj => ?_, fun j => by rw [World.frozen?_setCell]; exact h.free j⟩
 by_cases e : k = j
 · subst e
   rw [cell_here (h.cell k hk)]
   simp [hZ, hk]
 · rw [cell_far (h.cell j hj) (by first | (simp; done) | (simp; exact e))]
   simp [List.getElem?_set_ne e]

theorem limbText_c (a : Option Addr) (ca : Nat) (l : List Nat) (w : World) (ha : U32 w a ca l) (h1 : l.length ≤ 67108865) :
 Calls Tryz.prog 202 #[.slice a l.length ca] w fun e w' => e = .returned (.string ⟨(natTxt (val l)).toArray⟩) ∧ Below w.heap.size w w' := by
 have nc := limbNorm_c a ca l w ha (by omega)
 have HTV := Lib.hid (val_trim l)
 have hTN := trim_nrm l
 have hTl := Nat.le_trans (trim_len l) h1
 have HPL := Lib.hid (show ∀ P Q, pcs (val l) = P ++ Q → P.length ≤ 2147483680 from fun P Q h => pcs_bound ha.2.2.1 h1 h)
 generalize trimL l = T at *
 go_enter Tryz.func202, Tryz.ntmps202
 go_wp2_with fail
 refine nc.mono ?_
 rintro e w0 ⟨⟨a0, rfl, hu0⟩, hb0⟩
 clear nc
 go_wp2
 go_loopg [3, 4] (val T) (fun gk d v wr => ∃ (P : List Nat) (ad : Option Addr) (cd : Nat) (L : List Nat), v = .slice ad L.length cd ∧ U32 wr ad cd L ∧ Nrm L ∧ L.length ≤ 67108865 ∧ gk = val L ∧ Own32 w0 wr d P ∧ pcs (val l) = P ++ pcs (val L))
 case atStart => exact ⟨[], a0, _, T, rfl, hu0, hTN, hTl, rfl, Own32.nil (Below.refl _ _), by rw [HTV.out]; rfl⟩
 case round =>
  obtain ⟨P, ad, cd, L, rfl, hu, hn, hlm, hgk, hO, hP⟩ := hrel
  have HP := Lib.hid (And.intro hgk hP)
  clear hgk hP
  have hPl : P.length ≤ 2147483680 := HPL.out _ _ HP.out.2
  by_cases hL : 0 < L.length
  · have hLz : (0 : Int) < (L.length : Int) := by omega
    have hv0 : 0 < val L := by
     have h1 := nrm_val_pos hn (List.length_pos_iff.1 hL)
     have : 0 < BB ^ (L.length - 1) := Nat.pow_pos BB_pos
     omega
    have dc := fun (W : World) (h : Below wr.heap.size wr W) => divSmallF_c ad cd L 1000000000 W (hu.keep h) (by omega) (by omega) (by unfold BB; omega)
    have HN := Lib.hid (show pcs (val L) = val L % 1000000000 :: pcs (val L / 1000000000) from pcs_pos hv0)
    have HLT := Lib.hid (show val L / 1000000000 < val L by omega)
    have hr9 : val L % 1000000000 < 1000000000 := Nat.mod_lt _ (by omega)
    have HQL := Lib.hid (show ∀ Q : List Nat, Nrm Q → val Q = val L / 1000000000 → Q.length ≤ 67108865 from fun Q hQ hv => by
     refine Nat.le_trans (nrm_len_le (k := L.length) hQ ?_) hlm
     have := val_lt hu.2.2.1
     omega)
    go_wp2_with fail
    refine (dc _ (Below.refl _ _)).mono ?_
    rintro e w2 ⟨⟨u, rfl, hq, hqf⟩, hb2⟩
    have hO2 := hO.below hb2
    have HLT2 := Lib.hid hO.1.lt
    have HQF := Lib.hid hqf
    clear dc hO hu hqf
    obtain ⟨aq, nq, Lq, rfl, rfl, hqu, hqn, hqv⟩ := hq
    have hLqm := HQL.out Lq hqn hqv
    have HV := Lib.hid hqv
    clear hqv
    obtain ⟨r, hr⟩ : ∃ r, r = val L % 1000000000 := ⟨_, rfl⟩
    rw [← hr] at hr9
    have HR := Lib.hid hr
    rw [← hr]
    clear hr
    go_wp2_with (at_builtin; refine app32l (X := [r]) rfl rfl hO2 rfl rfl ?_ ?_; (simp; omega); intro v' w3 hO3 hlim3)
    go_roundg (val L / 1000000000)
    case measure => rw [HP.out.1]; exact HLT.out
    case rel => exact ⟨P ++ [r], aq, _, Lq, rfl, hlim3 aq _ Lq hqu (fun g f e h => by have h1 := (HLT2.out g h).2; have h2 := HQF.out g f _ _ (by rw [e]); omega), hqn, hLqm, HV.out.symm, hO3, by rw [HV.out, HP.out.2, HN.out, HR.out]; simp⟩
  · obtain rfl : L = [] := List.length_eq_zero_iff.1 (by omega)
    have hPN := HP.out.2
    rw [show val [] = 0 from rfl, pcs_zero, List.append_nil] at hPN
    have hB2 := bthen hb0 hO.2
    by_cases hP0 : P = []
    · subst hP0
      have hN0 : val l = 0 := by
       apply Nat.eq_zero_of_not_pos; intro h
       exact pcs_ne h hPN
      have HE := Lib.hid (show natTxt (val l) = [48] by rw [hN0]; rfl)
      rcases hO.ex with ⟨a9, c9, rfl⟩
      clear hPN hN0 hu hO
      simp only [List.length_nil]
      go_wp2
      go_ret
      exact ⟨by rw [HE.out]; rfl, hB2⟩
    · have hN0 : 0 < val l := by
       apply Nat.pos_of_ne_zero; intro h
       rw [h, pcs_zero] at hPN
       exact hP0 hPN.symm
      have HPN := Lib.hid hPN
      have HN0 := Lib.hid hN0
      have hPz : ((P.length : Int) == 0) = false := by rw [beq_eq_false_iff_ne]; have := List.length_pos_iff.2 hP0; omega
      obtain ⟨a9, c9, rfl, hPU⟩ := hO.u32 (L := P) (fun x hx => by
       have := pcs_lt (val l) x (by rw [HPN.out]; exact hx)
       unfold BB; omega)
      rcases hPU.2.2.2 with h0 | ⟨bp, op, rfl, hPc⟩
      · exact absurd h0 hP0
      clear hPN hN0 hu hO hPU
      have HPL9 := Lib.hid (show ∀ x ∈ P, x < 1000000000 from fun x hx => pcs_lt (val l) x (by rw [HPN.out]; exact hx))
      have HLST := Lib.hid (show ∀ h : P ≠ [], 0 < P.getLast h from by rw [← HPN.out]; exact pcs_last (val l))
      have HE := Lib.hid (show natTxt (val l) = asc (lowP P) by rw [← HPN.out, lowP_pcs]; unfold natTxt; rw [if_neg (by have := HN0.out; omega)])
      have hza := zeroArr9
      have hbp := cell_lt (hPc 0 (List.length_pos_iff.2 hP0))
      simp only [List.length_nil]
      go_wp2
      go_loopw [9] (fun x wx => ∃ k : Nat, k ≤ P.length ∧ x = .int .i64 ((k : Int) - 1) ∧ Bld wr.heap.size wr.heap.size (asc (lowP (P.drop k))) wx ∧ Below wr.heap.size wr wx ∧ wr.heap.size < wx.heap.size) (fun x _ => (intOf x + 1).toNat)
      case atStart => exact ⟨P.length, Nat.le_refl _, rfl, by rw [List.drop_length]; exact Bld.new rfl, bal (Below.refl _ _) _, by simp⟩
      case round =>
       rename World => wx
       obtain ⟨k, hk, rfl, hBd, hBx, hsx⟩ := hrel
       cases k with
       | zero =>
        clear hza
        rw [List.drop_zero] at hBd
        go_wp2_with fail
        refine (bstring_c wr.heap.size wr.heap.size _ _ hBd hBx.size).mono ?_
        rintro e w6 ⟨rfl, hb6⟩
        go_wp2
        go_ret
        exact ⟨by rw [HE.out]; rfl, bthen hB2 (hBx.trans hb6)⟩
       | succ k =>
        have hp9 : P.getD k 0 < 1000000000 := HPL9.out _ (by rw [List.getD_eq_getElem?_getD, List.getElem?_eq_getElem (by omega)]; exact List.getElem_mem _)
        have HTOP := Lib.hid (show k + 1 = P.length → 0 < P.getD k 0 from fun h => by
         have h2 := HLST.out hP0
         rw [List.getLast_eq_getElem] at h2
         rw [List.getD_eq_getElem?_getD, List.getElem?_eq_getElem (by omega)]
         have e : P.length - 1 = k := by omega
         simp only [e] at h2
         exact h2)
        have HTP := Lib.hid (show k + 1 = P.length → lowP (P.drop k) = lowD (P.getD k 0) from fun h => lowP_top h)
        have HLO := Lib.hid (show k + 1 < P.length → lowP (P.drop k) = padD 9 (P.getD k 0) ++ lowP (P.drop (k + 1)) from fun h => lowP_low h)
        have q0 := bkeep hBx (hPc k (by omega))
        generalize P.getD k 0 = p at *
        have hkl : (k : Int) < (P.length : Int) := by omega
        have q1 := cell_alloc q0 (.cells #[.int .u8 0, .int .u8 0, .int .u8 0, .int .u8 0, .int .u8 0, .int .u8 0, .int .u8 0, .int .u8 0, .int .u8 0] 300)
        rw [show (((k + 1 : Nat) : Int) - 1) = (k : Int) from by omega]
        go_wp2
        go_loopw [11, 12] (fun xv kv wi => ∃ j m : Nat, j + m = 9 ∧ kv = .int .i64 ((j : Int) - 1) ∧ xv = .int .u32 ((p / 10 ^ m : Nat) : Int) ∧ Arr9 wi wx.heap.size (Z9 j m p) ∧ Below wx.heap.size wx wi ∧ wx.heap.size < wi.heap.size) (fun _ kv _ => (intOf kv + 1).toNat)
        case atStart => exact ⟨9, 0, rfl, rfl, by simp, Arr9.new wx p, bal (Below.refl _ _) _, by simp⟩
        case round =>
         rename World => wi
         obtain ⟨j, m, hjm, rfl, rfl, hA, hBi, hsi⟩ := hrel
         cases j with
         | zero =>
          obtain rfl : m = 9 := by omega
          have hBy : Bld wr.heap.size wr.heap.size (asc (lowP (P.drop (k + 1)))) wi := hBd.keep hBi
          have hsl : (convert 173 9 (.slice (some ⟨wx.heap.size, 0, none⟩) 9 9)).run Tryz.prog wi = .ok (.string ⟨(asc (padD 9 p)).toArray⟩) wi := by
           have hl9 : (asc (padD 9 p)).length = 9 := by rw [asc_len, padD_len]
           have := run_convert_bytes_back (P := Tryz.prog) wi 173 9 5 ⟨wx.heap.size, 0, none⟩ 9 (asc (padD 9 p)) Tryz.underlying173 Tryz.underlying5 Tryz.underlying9 (fun j hj => by
            have h := hA.cell j (by omega)
            rw [Z9_end] at h
            unfold Addr.add
            split
            · subst_vars; simpa [hj] using h
            · simpa [hj] using h)
           rwa [hl9] at this
          have hBw := bthen hBx hBi
          clear hA hBi hBd hza q0 q1
          have hsw := hBw.size
          have hll : (asc (lowP (P.drop (k + 1)))).length ≤ 19327353120 := by
           have h1 := lowP_len (P.drop (k + 1)) (fun x hx => HPL9.out x (List.mem_of_mem_drop hx))
           rw [asc_len]
           have h2 : (P.drop (k + 1)).length ≤ P.length := by rw [List.length_drop]; omega
           omega
          by_cases hk1 : k + 1 = P.length
          · have ht : ((k : Int) == (P.length : Int) - 1) = true := by rw [beq_iff_eq]; omega
            have HEQ := Lib.hid (show asc (lowP (P.drop (k + 1))) ++ asc (lowD p) = asc (lowP (P.drop k)) by
             rw [HTP.out hk1, List.drop_eq_nil_of_le (by omega)]; rfl)
            have htr := fun W => trimLeft_c ⟨(asc (padD 9 p)).toArray⟩ W
            rw [show Lib.trimLeftB (ByteArray.mk (asc (padD 9 p)).toArray).data.toList 48 = asc (lowD p) from asc_pad_top (HTOP.out hk1) hp9] at htr
            have hld : (asc (lowD p)).length ≤ 9 := by rw [asc_len]; exact (padD_low 9 p hp9).2
            clear hk1
            generalize asc (padD 9 p) = tx at *
            generalize asc (lowD p) = ty at *
            generalize asc (lowP (P.drop (k + 1))) = lx at *
            go_wp2_with fail
            refine (htr _).mono ?_
            rintro e w5 ⟨rfl, rfl⟩
            clear htr
            go_wp2_with fail
            refine (bwrite_c wr.heap.size wr.heap.size lx ⟨ty.toArray⟩ _ hBy (by show lx.length + ty.length ≤ _; omega) hsw).mono ?_
            rintro e w6 ⟨rfl, hBz, hb6⟩
            go_wp2
            exact ⟨⟨k, by omega, by go_num, by rw [← HEQ.out]; exact hBz, hBw.trans hb6, by have := hb6.size; omega⟩, by simp [intOf]⟩
          · have ht : ((k : Int) == (P.length : Int) - 1) = false := by rw [beq_eq_false_iff_ne]; omega
            have HEQ := Lib.hid (show asc (lowP (P.drop (k + 1))) ++ asc (padD 9 p) = asc (lowP (P.drop k)) by
             rw [HLO.out (by omega), asc_append])
            have hld : (asc (padD 9 p)).length ≤ 9 := by rw [asc_len, padD_len]; omega
            clear hk1
            generalize asc (padD 9 p) = ty at *
            generalize asc (lowP (P.drop (k + 1))) = lx at *
            go_wp2_with fail
            refine (bwrite_c wr.heap.size wr.heap.size lx ⟨ty.toArray⟩ _ hBy (by show lx.length + ty.length ≤ _; omega) hsw).mono ?_
            rintro e w6 ⟨rfl, hBz, hb6⟩
            go_wp2
            exact ⟨⟨k, by omega, by go_num, by rw [← HEQ.out]; exact hBz, hBw.trans hb6, by have := hb6.size; omega⟩, by simp [intOf]⟩
         | succ j =>
          have HS := Lib.hid (Z9_step j m p)
          have HQ := Lib.hid (show p / 10 ^ (m + 1) = p / 10 ^ m / 10 by rw [Nat.pow_succ, Nat.div_div_eq_div_mul])
          have hZl := Z9_len (j + 1) m p
          rw [show (((j + 1 : Nat) : Int) - 1) = (j : Int) from by omega]
          have hj9 : (j : Int) < 9 := by omega
          have qc := hA.cell j (by omega)
          have qf := hA.free j
          have hAn := hA.set (k := j) (by rw [hZl, hjm]) (by omega) (dig (p / 10 ^ m % 10))
          rw [HS.out] at hAn
          have hq9 : p / 10 ^ m < 4294967296 := Nat.lt_of_le_of_lt (Nat.div_le_self _ _) (by omega)
          generalize p / 10 ^ m = q at *
          have hc10 : q % 10 < 10 := by omega
          obtain ⟨bb, hbb⟩ : ∃ bb, bb = dig (q % 10) := ⟨_, rfl⟩
          rw [← hbb] at hAn
          have e3 : (q : Int).tmod 10 = ((q % 10 : Nat) : Int) := rfl
          have e4 : (q : Int).tdiv 10 = ((q / 10 : Nat) : Int) := rfl
          have e5 : ((q / 10 : Nat) : Int) % 4294967296 = ((q / 10 : Nat) : Int) := by omega
          have hb1 : (48 : Int) + ((q % 10 : Nat) : Int) = (bb.toNat : Int) := by rw [hbb, dig_nat hc10]; omega
          have hb2 : (bb.toNat : Int) % 256 = (bb.toNat : Int) := by have := bb.toNat_lt; omega
          have hb3 : IntKind.u32.wrap (bb.toNat : Int) = (bb.toNat : Int) := w32 (by have := bb.toNat_lt; unfold BB; omega)
          have HBB := Lib.hid hbb
          have HAN := Lib.hid hAn
          clear hbb hAn hZl
          generalize q % 10 = c10 at *
          generalize q / 10 = q10 at *
          go_wp2
          refine ⟨⟨j, m + 1, by omega, by go_num, by rw [HQ.out], HAN.out, bset hBi (by simp) _, by simpa using hsi⟩, by simp [intOf]⟩
end
section
open Num
attribute [local go_sem] Oper.semAt_some

def DigTxt (s : ByteArray) (L : List Nat) : Prop := s.data.toList = L.map dig ∧ ∀ d ∈ L, d < 10
theorem DigTxt.size {s : ByteArray} {L : List Nat} (h : DigTxt s L) : s.size = L.length := by
 have e := congrArg List.length h.1
 rw [List.length_map] at e
 rw [← e]; rfl
theorem DigTxt.get {s : ByteArray} {L : List Nat} (h : DigTxt s L) (k : Nat) (hk : k < L.length) (hs : k < s.size) : (s[k]'hs).toNat = 48 + L.getD k 0 ∧ L.getD k 0 < 10 := by
 have hd : L.getD k 0 < 10 := by
  rw [List.getD_eq_getElem?_getD, List.getElem?_eq_getElem hk]; exact h.2 _ (List.getElem_mem _)
 have e : s.data.toList[k]? = some (dig (L.getD k 0)) := by
  rw [h.1, List.getElem?_map, List.getElem?_eq_getElem hk]
  simp [List.getElem?_eq_getElem hk]
 have e2 : s[k]'hs = dig (L.getD k 0) := by
  have h3 : s.data.toList[k]? = some (s[k]'hs) := by
   rw [Array.getElem?_toList]
   exact Array.getElem?_eq_getElem hs
  rw [h3] at e; exact Option.some.inj e
 rw [e2, dig_nat hd]
 exact ⟨rfl, hd⟩
theorem next_dig {s : ByteArray} {L : List Nat} (h : DigTxt s L) {wr : World} {ib pos : Nat} (hit : wr.heap[ib]? = some (.stringIter s pos)) (hp : pos < L.length) (ty : TypeId) :
 (Instr.next (.pointer (some ⟨ib, 0, none⟩)) true ty).run Tryz.prog wr = .ok (.tuple #[.bool true, .int .i64 pos, .int .i32 ((48 + L.getD pos 0 : Nat) : Int)]) (wr.iterAt ib s (pos + 1)) := by
 have hs : pos < s.size := by rw [h.size]; exact hp
 obtain ⟨e, hd⟩ := h.get pos hp hs
 have := Go.Lib.run_next_ascii_at (P := Tryz.prog) wr ib s pos ty hit hs (by rw [e]; omega)
 rwa [e] at this
theorem iterAt_grown (w : World) (k : Nat) (s : ByteArray) (p : Nat) : w.grownBy (w.iterAt k s p) (some k) := by
 refine ⟨rfl, rfl, rfl, by simp [Go.World.iterAt], fun i hi hk => ?_⟩
 simp only [Go.World.iterAt]
 exact Array.getElem?_setIfInBounds_ne (fun e => hk (by rw [e]))

theorem dg_c (l B N n0 : Nat) (s : ByteArray) (L : List Nat) (J Jx : List Nat → World → Prop) (hJ : AbidesFrom n0 J) (hd : DigTxt s L)
 (hY : ∀ pre x W1, J pre W1 → pre.length < N → YieldAt Fence.wide 3 Tryz.prog l #[.int .i64 ((x % 10 : Nat) : Int)] W1 fun e W' => (e = .returned (.bool true) ∧ J (pre ++ [x]) W' ∧ KeepsWalks W1 W') ∨ (e = .returned (.bool false) ∧ Jx (pre ++ [x]) W'))
 (W : World) (hn : n0 = W.heap.size) (hm : W.cell? ⟨B, 0, none⟩ = some (.string s)) (h0 : J [] W) (hN : L.length ≤ N) :
 Calls Tryz.prog 203 #[.func (.yield l) #[] #[], .pointer (some ⟨B, 0, none⟩)] W fun e W' => (∃ v, e = .returned v) ∧ ((∃ xs, xs = L ∧ J xs W') ∨ (∃ pre, pre <+: L ∧ Jx pre W')) := by
 go_enter Tryz.func203, Tryz.ntmps203
 go_wp2
 go_loopg [4] L.length (fun gk u wr => ∃ pos : Nat, pos ≤ L.length ∧ gk = L.length - pos ∧ wr.heap[W.heap.size]? = some (.stringIter s pos) ∧ J (L.take pos) wr)
 case atStart => exact ⟨0, Nat.zero_le _, by omega, World.iter_heap W s 0, hJ _ _ _ none h0 ⟨rfl, rfl, rfl, by simp [World.iter], fun k hk _ => Below.heap_alloc _ _ _ hk⟩ (fun r e => by cases e)⟩
 case round =>
  obtain ⟨pos, hp, hgk, hit, hj⟩ := hrel
  by_cases hlt : pos < L.length
  · have hnx := next_dig hd hit hlt
    have hd10 := hd.2 (L.getD pos 0) (by rw [List.getD_eq_getElem?_getD, List.getElem?_eq_getElem hlt]; exact List.getElem_mem _)
    obtain ⟨wn, hwn⟩ : ∃ wn, wn = wr.iterAt W.heap.size s (pos + 1) := ⟨_, rfl⟩
    have hitn : wn.heap[W.heap.size]? = some (.stringIter s (pos + 1)) := by rw [hwn]; exact Go.Lib.iterAt_heap wr W.heap.size s pos (pos + 1) hit
    have hjn : J (L.take pos) wn := hJ _ _ _ (some W.heap.size) hj (by rw [hwn]; exact iterAt_grown _ _ _ _) (fun r e => by cases e; exact ⟨Nat.le_of_eq hn, _, hit, rfl⟩)
    rw [← hwn] at hnx
    clear hwn
    have HT := hZ (show L.take (pos + 1) = L.take pos ++ [L.getD pos 0] by
     rw [List.take_add_one, List.getElem?_eq_getElem hlt]; simp [List.getElem?_eq_getElem hlt])
    obtain ⟨fn, tmps, asg, body, hy, hR⟩ := hY (L.take pos) (L.getD pos 0) wn hjn (by rw [List.length_take]; omega)
    rw [Nat.mod_eq_of_lt hd10] at hy
    generalize L.getD pos 0 = d at *
    have hw1 : (48 : Int) + (d : Int) - 48 = (d : Int) := by omega
    go_upto_region 3 with (fail)
    refine (wpIn_wide (n := 4)).1 ?_
    gi_wp2
    refine hR.mono ?_
    rintro e W' (⟨rfl, hJ', hk⟩ | ⟨rfl, hJx'⟩)
    · gi_wp2
      go_wp2
      go_roundg (L.length - (pos + 1))
      case measure => omega
      case rel => exact ⟨pos + 1, by omega, rfl, hk.same _ _ hitn rfl, by rw [HT.out]; exact hJ'⟩
    · gi_wp2
      go_wp2
      refine bodyPost_ret (results_none rfl _ _ _) rfl ?_
      exact ⟨⟨_, rfl⟩, .inr ⟨L.take (pos + 1), List.take_prefix _ _, by rw [HT.out]; exact hJx'⟩⟩
  · obtain rfl : pos = L.length := by omega
    have hnx := fun ty => Go.Lib.run_next_end_at (P := Tryz.prog) wr W.heap.size s L.length ty hit (by rw [hd.size]; omega)
    rw [List.take_length] at hj
    go_wp2
    refine bodyPost_end (results_none rfl _ _ _) rfl ?_
    exact ⟨⟨_, rfl⟩, .inl ⟨L, rfl, hj⟩⟩
theorem digits_stops (B N n : Nat) (s : ByteArray) (L : List Nat) (w : World) (hd : DigTxt s L) (hm : w.cell? ⟨B, 0, none⟩ = some (.string s)) (hN : L.length ≤ N) :
 SeqStopsK Fence.wide n Tryz.prog 203 #[.pointer (some ⟨B, 0, none⟩)] (fun x : Nat => #[.int .i64 ((x % 10 : Nat) : Int)]) KeepsWalks (· = L) (· <+: L) N w := by
 intro l J Jx W hW hJ hJx hY h0
 refine callsIn_wide.2 ?_
 exact dg_c l B N W.heap.size s L J Jx hJ hd (fun pre x W1 hp hl => yieldAt_wide (hY pre x W1 hp hl)) W rfl (bkeep hW hm) h0 hN
def digL (n : Nat) : List Nat := if n = 0 then [0] else (lowD n).reverse
theorem digL_txt (n : Nat) : DigTxt ⟨(natTxt n).toArray⟩ (digL n) := by
 refine ⟨?_, ?_⟩
 · show natTxt n = (digL n).map dig
   unfold natTxt digL
   split
   · rfl
   · rw [asc_eq, List.map_reverse]
 · unfold digL
   split
   · intro d hd; simp at hd; omega
   · intro d hd; exact lowD_lt n d (by simpa using hd)
theorem limbDigits_c (a : Option Addr) (ca : Nat) (l : List Nat) (w : World) (ha : U32 w a ca l) (h1 : l.length ≤ 67108865) :
 Calls Tryz.prog 115 #[.slice a l.length ca] w fun e w' => ∃ B, e = .returned (.func (.func 203) #[] #[.pointer (some ⟨B, 0, none⟩)]) ∧ w'.cell? ⟨B, 0, none⟩ = some (.string ⟨(natTxt (val l)).toArray⟩) ∧ Below w.heap.size w w' := by
 have tc := fun W (h : Below w.heap.size w W) => limbText_c a ca l W (ha.keep h) h1
 go_enter Tryz.func115, Tryz.ntmps115
 go_wp2_with fail
 refine (tc _ (Below.refl _ _)).mono ?_
 rintro e w1 ⟨rfl, hb1⟩
 clear tc
 go_wp2
 go_ret
 exact ⟨_, rfl, cell_new rfl rfl, bal hb1 _⟩
end
section
open Num
attribute [local go_sem] Oper.semAt_some

structure OutS (c base : Nat) (av : Option Addr) (cap : Nat) (L : List UInt8) (W : World) : Prop where
 cell : W.cell? ⟨c, 0, none⟩ = some (.slice av L.length cap)
 free : W.frozen? ⟨c, 0, none⟩ = false
 own : W.ownsRow base 5 1 (.slice av L.length cap) L.length (Lib.byteCells L)
 lt : c < base
theorem own_soft {B base : Nat} {W W' : World} {v : Value} {n : Nat} {xs : List Value} (h : W.ownsRow base 5 1 v n xs) (s : Soft B W W') : W'.ownsRow base 5 1 v n xs := by
 refine ⟨h.1, ?_⟩
 rcases h.2 with hn | ⟨g, cap, cur, rfl, hb, hgg, rest⟩
 · exact .inl hn
 · exact .inr ⟨g, cap, cur, rfl, hb, s.cells _ _ hgg rfl, rest⟩
theorem own_put {base : Nat} {W : World} {v : Value} {n : Nat} {xs : List Value} (h : W.ownsRow base 5 1 v n xs) (p : Addr) (x : Value) (hp : p.block < base) : (W.setCell p x).ownsRow base 5 1 v n xs := by
 refine ⟨h.1, ?_⟩
 rcases h.2 with hn | ⟨g, cap, cur, rfl, hb, hgg, rest⟩
 · exact .inl hn
 · exact .inr ⟨g, cap, cur, rfl, hb, (Below.heap_setCell _ _ _ _ (by omega)).trans hgg, rest⟩
theorem own_shape {base : Nat} {W : World} {v : Value} {L : List UInt8} (h : W.ownsRow base 5 1 v L.length (Lib.byteCells L)) : ∃ a c, v = .slice a L.length c := by
 rcases h.2 with ⟨rfl, h1⟩ | ⟨g, cap, cur, rfl, _⟩
 · exact ⟨none, 0, by rw [h1]⟩
 · exact ⟨_, _, rfl⟩
theorem OutS.soft {c base B : Nat} {av : Option Addr} {cap : Nat} {L : List UInt8} {W W' : World} (h : OutS c base av cap L W) (s : Soft B W W') : OutS c base av cap L W' :=
 ⟨s.cell h.cell, s.frozen h.cell h.free, own_soft h.own s, h.lt⟩
theorem OutS.keep {c base : Nat} {av : Option Addr} {cap : Nat} {L : List UInt8} {W W' : World} (h : OutS c base av cap L W) (hb : Below W.heap.size W W') : OutS c base av cap L W' :=
 ⟨bkeep hb h.cell, bkeepf hb h.cell h.free, own_below (w0 := W) h.own hb, h.lt⟩
theorem OutS.next {c base : Nat} {av : Option Addr} {cap : Nat} {L X : List UInt8} {W w' : World} {v' : Value} (h : OutS c base av cap L W) (o : Obj)
 (hown : w'.ownsRow base 5 1 v' (L ++ X).length (Lib.byteCells (L ++ X))) (hg : (W.alloc o).grownBy w' (Value.slice av L.length cap).ownBlock) :
 ∃ av' cap', v' = .slice av' (L ++ X).length cap' ∧ OutS c base av' cap' (L ++ X) (w'.setCell ⟨c, 0, none⟩ v') ∧ KeepsOthers W (w'.setCell ⟨c, 0, none⟩ v') ∧ w'.cell? ⟨c, 0, none⟩ = some (.slice av L.length cap) ∧ w'.frozen? ⟨c, 0, none⟩ = false := by
 obtain ⟨av', cap', rfl⟩ := own_shape hown
 have hne : some c ≠ (Value.slice av L.length cap).ownBlock := fun e => by
  have := (h.own.lt c e.symm).1
  have := h.lt
  omega
 have c0 : w'.cell? ⟨c, 0, none⟩ = some (.slice av L.length cap) := hg.cell (cell_alloc h.cell o) hne
 have cf : w'.frozen? ⟨c, 0, none⟩ = false := by
  rw [World.frozen?_of_block (hg.block c (by have := cell_lt h.cell; simp; omega) hne)]
  exact bkeepf (bal (Below.refl _ _) _) h.cell h.free
 refine ⟨av', cap', rfl, ⟨cell_here c0 _, by rw [World.frozen?_setCell]; exact cf, own_put hown _ _ h.lt, h.lt⟩, ?_, c0, cf⟩
 refine ((KeepsOthers.alloc W o).trans (KeepsOthers.of_grownBy hg ?_)).trans (KeepsOthers.setCell _ _ _)
 intro j o' hj ho'
 rcases (h.own.alloc o).2 with ⟨h0, _⟩ | ⟨g, cap2, cur, h0, hb, hgg, rest⟩
 · rw [h0] at hj; simp [Value.ownBlock] at hj
 · rw [h0] at hj; simp [Value.ownBlock] at hj
   subst hj
   rw [hgg] at ho'; cases ho'; rfl
theorem OutS.str {c base : Nat} {av : Option Addr} {cap : Nat} {L : List UInt8} {W : World} (h : OutS c base av cap L W) : (convert 173 9 (.slice av L.length cap)).run Tryz.prog W = .ok (.string ⟨L.toArray⟩) W := by
 rcases h.own.2 with ⟨h1, h2⟩ | ⟨g, cap2, cur, h1, hb, hgg, rest⟩
 · obtain rfl : L = [] := List.length_eq_zero_iff.1 h2
   cases h1
   exact run_convert_bytes_nil W 173 5 Tryz.underlying173 Tryz.underlying5 0 0 9 Tryz.underlying9
 · cases h1
   have ho := h.own
   refine run_convert_bytes_back W 173 9 5 ⟨g, 0, none⟩ cap L Tryz.underlying173 Tryz.underlying5 Tryz.underlying9 fun j hj => ?_
   have := World.ownsRow.cellAt ho j (by omega)
   rw [bcells_get L j hj] at this
   unfold Addr.add
   split
   · subst_vars; simpa [hj] using this
   · simpa [hj] using this
theorem dig_map (L : List Nat) (h : ∀ d ∈ L, d < 10) : L.map (fun x => dig (x % 10)) = L.map dig := List.map_congr_left fun x hx => by rw [Nat.mod_eq_of_lt (h x hx)]
theorem digL_len {l : List Nat} (hl : Limbs l) (h1 : l.length ≤ 67108865) : (digL (val l)).length ≤ 2147483680 := by
 have h2 := val_lt hl
 rw [BB_pow] at h2
 have h3 := lowD_len _ _ h2
 unfold digL
 split
 · simp
 · rw [List.length_reverse]; omega
theorem intTxt_eq (n : Bool) (V : Nat) (hn : n = true → 0 < V) : intTxt (sg n V) = (if n then [45] else []) ++ (digL V).map (fun x => dig (x % 10)) := by
 have hd := digL_txt V
 have e : natTxt V = (digL V).map dig := hd.1
 rw [dig_map _ hd.2, ← e]
 unfold intTxt
 rw [sg_abs]
 cases n with
 | true => rw [if_pos (by have := hn rfl; simp [sg]; omega)]; rfl
 | false => rw [if_neg (by simp [sg])]; rfl


theorem intText_c (vx : Value) (x : Int) (k : Nat) (w : World) (hx : IsInt w vx x) (bx : Bd k x) (hk : k ≤ 2147483648) :
 Calls Tryz.prog 28 #[vx] w fun e w' => e = .returned (.string ⟨(intTxt x).toArray⟩) ∧ Below w.heap.size w w' := by
 obtain ⟨n1, a1, c1, l1, rfl, u1, g1, s1, rfl⟩ := hx
 have k1 : l1.length ≤ 67108865 := by
  by_cases h0 : l1 = []
  · subst h0; simp
  · have h1 := nrm_val_pos g1 h0
    rw [BB_pow] at h1
    have h2 : 32 * (l1.length - 1) < k := (Nat.pow_lt_pow_iff_right (a := 2) (by omega)).1 (Nat.lt_of_le_of_lt h1 (sg_bd bx))
    omega
 have HE := hZ (intTxt_eq n1 (val l1) (fun h => by
  have h1 := nrm_val_pos g1 (s1 h)
  have : 0 < BB ^ (l1.length - 1) := Nat.pow_pos BB_pos
  omega))
 have HDL := hZ (digL_len u1.2.2.1 k1)
 have HDT := hZ (digL_txt (val l1))
 clear bx s1
 unfold iv
 obtain ⟨i0, z0, hi0, hz0, hsize0, hby0, hzs0⟩ := el8.info
 refine calls_of_wp_marks Tryz.func28 rfl ?_
 simp only [Tryz.ntmps28, List.size_toArray, List.length_cons, List.length_nil, Nat.reduceAdd, Nat.reduceSub, Array.replicate_succ, Array.replicate_zero, List.push_toArray, List.append_toArray, List.nil_append, List.cons_append, Array.append_empty, Array.empty_append]
 cases n1 with
 | false =>
  go_wp2_with fail
  refine (limbDigits_c a1 c1 l1 _ (u1.keep (bal (bal (Below.refl _ _) _) _)) k1).mono ?_
  rintro e wD ⟨B, rfl, hstr, hbD⟩
  have hO : OutS (w.heap.size + 1) (w.heap.size + 2) none 0 [] wD := OutS.keep ⟨cell_new (by simp) rfl, by rw [World.frozen?_alloc_at (hn := by simp)], World.ownsRow_nil _ _ _ _, by omega⟩ hbD
  have hBD : Below w.heap.size w wD := bthen (bal (bal (Below.refl _ _) _) _) hbD
  have HE := hZ (show intTxt (sg false (val l1)) = ([] : List UInt8) ++ (digL (val l1)).map (fun x => dig (x % 10)) from HE.out)
  have hszD := hbD.size
  have hsD : w.heap.size + 2 ≤ wD.heap.size := by have := cell_lt hO.cell; omega
  go_wp2
  refine wp_rangeK (gf := 203) (lb := #[.pointer (some ⟨B, 0, none⟩)]) (w0 := wD) (L := digL (val l1)) (N := (digL (val l1)).length) (Kp := KeepsWalks) (by simp [Act.eval]) (enters_of Tryz.func203 (by kernel_rfl) rfl)
   (encs := fun x : Nat => #[.int .i64 ((x % 10 : Nat) : Int)]) (digits_stops B _ 8 _ _ wD HDT.out hstr (Nat.le_refl _)) (fun h k => walksK_t h k) (fun W l o o' h1 h2 h3 h4 => walksK_b W l o o' h1 h2 h3 h4) (Below.refl _ _) (fun _ => rfl)
   (fun pre W => (∃ av cap, OutS (w.heap.size + 1) (w.heap.size + 2) av cap (([] : List UInt8) ++ pre.map (fun x => dig (x % 10))) W) ∧ Below w.heap.size w W ∧ wD.heap.size ≤ W.heap.size)
   (fun c pre W => False)
   ?_ ?_ ?_ ?_ ?_
   (fun T x a' W => a' = { tmps := (T.setIfInBounds 13 (.int .i64 ((x % 10 : Nat) : Int))).setIfInBounds 4 (.int .i64 ((x % 10 : Nat) : Int)), defers := [] } ∧ wD.heap.size ≤ W.heap.size)
   ?_ ?_ ?assign0 ?body0 ?done0 ?stop0
  case assign0 =>
   rintro l pre x W K hi hK
   generalize x % 10 = d at *
   gi_wp2
   exact hK _ _ (KeepsFrom.refl _ _) (KeepsWalks.refl _) hi ⟨by simp, hi.2.2⟩
  case body0 =>
   rintro l pre x a' w6 ⟨⟨av6, cap6, hO6⟩, hB6, hs6⟩ ⟨rfl, _⟩ hl
   have hlm : (([] : List UInt8) ++ pre.map (fun x => dig (x % 10))).length ≤ 2147483690 := by
    have := HDL.out
    simp
    omega
   have HLN := hZ (show ([] : List UInt8) ++ (pre ++ [x]).map (fun x => dig (x % 10)) = (([] : List UInt8) ++ pre.map (fun x => dig (x % 10))) ++ [dig (x % 10)] by simp)
   have hd10 : x % 10 < 10 := Nat.mod_lt _ (by omega)
   generalize ([] : List UInt8) ++ pre.map (fun x => dig (x % 10)) = Lp at *
   obtain ⟨bb, hbb⟩ : ∃ bb, bb = dig (x % 10) := ⟨_, rfl⟩
   rw [← hbb] at HLN
   have hb1 : (48 : Int) + ((x % 10 : Nat) : Int) = (bb.toNat : Int) := by rw [hbb, dig_nat hd10]; omega
   have hb2 : (bb.toNat : Int) % 256 = (bb.toNat : Int) := by have := bb.toNat_lt; omega
   clear hbb
   generalize x % 10 = d at *
   have c0 := hO6.cell
   have cf := hO6.free
   have hsz6 := cell_lt c0
   simp only [List.setIfInBounds_toArray, List.set_cons_succ, List.set_cons_zero]
   gi_wp2_with (gi_at_builtin; refine wpListIn_append_own _ rfl _ _ 173 rfl (w.heap.size + 2) 5 i0 z0 1 1 el8.ht hi0 hz0 hsize0 hby0 hzs0 el8.pos (.slice av6 Lp.length cap6) Lp.length (Lib.byteCells Lp) rfl (hO6.own.alloc _) ⟨w6.heap.size, 0, none⟩ 1 1 [.int .u8 (bb.toNat : Int)] rfl rfl (cell_one_new _ _ _) ?_ ?_ ?_ ?_ ?_; (simp [Value.oneCell']); (unfold maxLen; omega); omega; (simp; omega); intro v' w7 hown hg _; obtain ⟨av7, cap7, rfl, hO7, hKO, c7, f7⟩ := OutS.next hO6 (X := [bb]) _ (by rw [bcells_app, List.length_append]; exact hown) hg)
   have hB7 : Below w.heap.size w w7 := (bal hB6 _).grown hg (by simp; omega) (fun k e => by have := (hO6.own.lt k e).1; omega)
   have e7 : (Lp ++ [bb]).length = Lp.length + 1 := by simp
   rw [e7] at hO7 hKO
   have hs7 := hg.size
   simp at hs7
   refine ⟨hKO.from _, hKO.walks, ⟨_, _, by rw [HLN.out]; exact hO7⟩, bset hB7 (by simp) _, by simp; omega⟩
  case done0 =>
   rintro D w8 hDs ⟨⟨av8, cap8, hO8⟩, hB8, hs8⟩ hK0
   rw [← HE.out] at hO8
   have c0 := hO8.cell
   have hst := hO8.str
   go_wp2
   refine ⟨by simp, .inl ⟨_, _, rfl, run_takeDeferred (b := D) (ds := []) hK0, ?_⟩⟩
   refine ⟨.string ⟨(intTxt (sg false (val l1))).toArray⟩, ?_, rfl, b_put hB8 (by omega) _⟩
   simp [results, Tryz.results28, go_sem]
  case stop0 => intro D c pre W _ _ h; cases h
  · rintro pre W W' ⟨⟨av, cap, h⟩, h2, h3⟩ s; exact ⟨⟨av, cap, h.soft s⟩, h2.trans (s.below.mono (by omega)), Nat.le_trans h3 s.below.size⟩
  · exact fun c pre W W' h s => h
  · exact fun pre W h => h.2.2
  · exact fun c pre W h => h.elim
  · exact ⟨⟨_, _, by simpa using hO⟩, hBD, Nat.le_refl _⟩
  · rintro x a' W W' ⟨rfl, h⟩ s; exact ⟨rfl, Nat.le_trans h s.below.size⟩
  · rintro x a' W ⟨rfl, h⟩; exact h
 | true =>
  have hO0 : OutS (w.heap.size + 1) (w.heap.size + 2) none 0 [] ((w.alloc (.cells #[.bool true, .slice a1 l1.length c1] 50)).alloc (.cells #[.slice none 0 0] 173)) := ⟨cell_new (by simp) rfl, by rw [World.frozen?_alloc_at (hn := by simp)], World.ownsRow_nil _ _ _ _, by omega⟩
  have x00 : (((w.alloc (.cells #[.bool true, .slice a1 l1.length c1] 50)).alloc (.cells #[.slice none 0 0] 173)).alloc (.cells #[.int .u8 45] 5)).cell? ⟨w.heap.size, 1, none⟩ = some (.slice a1 l1.length c1) := cell_alloc (cell_alloc (cell_new rfl rfl) _) _
  have hnw : ∀ j u, [Value.int .u8 45][j]? = some u → (((w.alloc (.cells #[.bool true, .slice a1 l1.length c1] 50)).alloc (.cells #[.slice none 0 0] 173)).alloc (.cells #[.int .u8 45] 5)).cell? ((⟨w.heap.size + 1 + 1, 0, none⟩ : Addr).add j) = some u := fun j u hj => by
   have h := cell_one_new ((w.alloc (.cells #[.bool true, .slice a1 l1.length c1] 50)).alloc (.cells #[.slice none 0 0] 173)) (.int .u8 45) 5 j u hj
   simpa using h
  go_wp2_with (at_builtin; go_loud (refine wpList_append_own _ rfl _ _ 173 rfl (w.heap.size + 2) 5 i0 z0 1 1 el8.ht hi0 hz0 hsize0 hby0 hzs0 el8.pos (.slice none 0 0) 0 [] rfl (World.ownsRow_nil _ _ _ _) ⟨w.heap.size + 1 + 1, 0, none⟩ 1 1 [.int .u8 45] rfl rfl hnw ?_ ?_ ?_ ?_ ?_; (simp [Value.oneCell']); (unfold maxLen; omega); omega; (simp); intro v' w7 hown hg _; obtain ⟨av7, cap7, rfl, hO7, hKO, c7, f7⟩ := OutS.next hO0 (X := [45]) _ hown hg; have x1 := hg.cell x00 (by simp [Value.ownBlock])))
  have hB7 : Below w.heap.size w w7 := (bal (bal (bal (Below.refl _ _) _) _) _).grown hg (by simp; omega) (fun k e => by simp [Value.ownBlock] at e)
  have hs7 := hg.size
  simp at hs7
  refine (limbDigits_c a1 c1 l1 _ (u1.keep (bset hB7 (by simp) _)) k1).mono ?_
  rintro e wD ⟨B, rfl, hstr, hbD⟩
  have hO := hO7.keep hbD
  have hBD : Below w.heap.size w wD := bthen (bset hB7 (by simp) _) hbD
  have HE := hZ (show intTxt (sg true (val l1)) = ([45] : List UInt8) ++ (digL (val l1)).map (fun x => dig (x % 10)) from HE.out)
  have hszD := hbD.size
  have hsD : w.heap.size + 2 ≤ wD.heap.size := by have := cell_lt hO.cell; omega
  go_wp2
  refine wp_rangeK (gf := 203) (lb := #[.pointer (some ⟨B, 0, none⟩)]) (w0 := wD) (L := digL (val l1)) (N := (digL (val l1)).length) (Kp := KeepsWalks) (by simp [Act.eval]) (enters_of Tryz.func203 (by kernel_rfl) rfl)
   (encs := fun x : Nat => #[.int .i64 ((x % 10 : Nat) : Int)]) (digits_stops B _ 8 _ _ wD HDT.out hstr (Nat.le_refl _)) (fun h k => walksK_t h k) (fun W l o o' h1 h2 h3 h4 => walksK_b W l o o' h1 h2 h3 h4) (Below.refl _ _) (fun _ => rfl)
   (fun pre W => (∃ av cap, OutS (w.heap.size + 1) (w.heap.size + 2) av cap (([45] : List UInt8) ++ pre.map (fun x => dig (x % 10))) W) ∧ Below w.heap.size w W ∧ wD.heap.size ≤ W.heap.size)
   (fun c pre W => False)
   ?_ ?_ ?_ ?_ ?_
   (fun T x a' W => a' = { tmps := (T.setIfInBounds 13 (.int .i64 ((x % 10 : Nat) : Int))).setIfInBounds 4 (.int .i64 ((x % 10 : Nat) : Int)), defers := [] } ∧ wD.heap.size ≤ W.heap.size)
   ?_ ?_ ?assign0 ?body0 ?done0 ?stop0
  case assign0 =>
   rintro l pre x W K hi hK
   generalize x % 10 = d at *
   gi_wp2
   exact hK _ _ (KeepsFrom.refl _ _) (KeepsWalks.refl _) hi ⟨by simp, hi.2.2⟩
  case body0 =>
   rintro l pre x a' w6 ⟨⟨av6, cap6, hO6⟩, hB6, hs6⟩ ⟨rfl, _⟩ hl
   have hlm : (([45] : List UInt8) ++ pre.map (fun x => dig (x % 10))).length ≤ 2147483690 := by
    have := HDL.out
    simp
    omega
   have HLN := hZ (show ([45] : List UInt8) ++ (pre ++ [x]).map (fun x => dig (x % 10)) = (([45] : List UInt8) ++ pre.map (fun x => dig (x % 10))) ++ [dig (x % 10)] by simp)
   have hd10 : x % 10 < 10 := Nat.mod_lt _ (by omega)
   generalize ([45] : List UInt8) ++ pre.map (fun x => dig (x % 10)) = Lp at *
   obtain ⟨bb, hbb⟩ : ∃ bb, bb = dig (x % 10) := ⟨_, rfl⟩
   rw [← hbb] at HLN
   have hb1 : (48 : Int) + ((x % 10 : Nat) : Int) = (bb.toNat : Int) := by rw [hbb, dig_nat hd10]; omega
   have hb2 : (bb.toNat : Int) % 256 = (bb.toNat : Int) := by have := bb.toNat_lt; omega
   clear hbb
   generalize x % 10 = d at *
   have c0 := hO6.cell
   have cf := hO6.free
   have hsz6 := cell_lt c0
   simp only [List.setIfInBounds_toArray, List.set_cons_succ, List.set_cons_zero]
   gi_wp2_with (gi_at_builtin; refine wpListIn_append_own _ rfl _ _ 173 rfl (w.heap.size + 2) 5 i0 z0 1 1 el8.ht hi0 hz0 hsize0 hby0 hzs0 el8.pos (.slice av6 Lp.length cap6) Lp.length (Lib.byteCells Lp) rfl (hO6.own.alloc _) ⟨w6.heap.size, 0, none⟩ 1 1 [.int .u8 (bb.toNat : Int)] rfl rfl (cell_one_new _ _ _) ?_ ?_ ?_ ?_ ?_; (simp [Value.oneCell']); (unfold maxLen; omega); omega; (simp; omega); intro v' w7 hown hg _; obtain ⟨av7, cap7, rfl, hO7, hKO, c7, f7⟩ := OutS.next hO6 (X := [bb]) _ (by rw [bcells_app, List.length_append]; exact hown) hg)
   have hB7 : Below w.heap.size w w7 := (bal hB6 _).grown hg (by simp; omega) (fun k e => by have := (hO6.own.lt k e).1; omega)
   have e7 : (Lp ++ [bb]).length = Lp.length + 1 := by simp
   rw [e7] at hO7 hKO
   have hs7 := hg.size
   simp at hs7
   refine ⟨hKO.from _, hKO.walks, ⟨_, _, by rw [HLN.out]; exact hO7⟩, bset hB7 (by simp) _, by simp; omega⟩
  case done0 =>
   rintro D w8 hDs ⟨⟨av8, cap8, hO8⟩, hB8, hs8⟩ hK0
   rw [← HE.out] at hO8
   have c0 := hO8.cell
   have hst := hO8.str
   go_wp2
   refine ⟨by simp, .inl ⟨_, _, rfl, run_takeDeferred (b := D) (ds := []) hK0, ?_⟩⟩
   refine ⟨.string ⟨(intTxt (sg true (val l1))).toArray⟩, ?_, rfl, b_put hB8 (by omega) _⟩
   simp [results, Tryz.results28, go_sem]
  case stop0 => intro D c pre W _ _ h; cases h
  · rintro pre W W' ⟨⟨av, cap, h⟩, h2, h3⟩ s; exact ⟨⟨av, cap, h.soft s⟩, h2.trans (s.below.mono (by omega)), Nat.le_trans h3 s.below.size⟩
  · exact fun c pre W W' h s => h
  · exact fun pre W h => h.2.2
  · exact fun c pre W h => h.elim
  · exact ⟨⟨_, _, by simpa using hO⟩, hBD, Nat.le_refl _⟩
  · rintro x a' W W' ⟨rfl, h⟩ s; exact ⟨rfl, Nat.le_trans h s.below.size⟩
  · rintro x a' W ⟨rfl, h⟩; exact h
end
section
open Num
attribute [local go_sem ↓] Go.wp_at_zero Go.wp_at_succ
def brTxt (L : List (List UInt8)) : List UInt8 := 91 :: (Lib.join L [32] ++ [93])
def rowTxt (l : List Int) : List UInt8 := brTxt (l.map intTxt)
def matTxt (g : Grid) : List UInt8 := brTxt (g.map rowTxt)
theorem brTxt_arr (L : List (List UInt8)) : (⟨#[91]⟩ : ByteArray) ++ ⟨(Lib.join L [32]).toArray⟩ ++ ⟨#[93]⟩ = ⟨(brTxt L).toArray⟩ := by
 apply ByteArray.ext
 simp [brTxt, ByteArray.data_append]
theorem rowText_c (v : Value) (l : List Int) (k : Nat) (w : World) (hv : PRow 0 w v l) (hl : l.length ≤ 1099511627775) (hb : ∀ j, Bd k (l.getD j 0)) (hk : k ≤ 2147483648) (hlen : (Lib.join (l.map intTxt) [32]).length ≤ 140737488355328) :
 Calls Tryz.prog 187 #[v] w fun e w' => e = .returned (.string ⟨(rowTxt l).toArray⟩) ∧ Below w.heap.size w w' := by
 have HV := hZ hv
 have HBD := hZ hb
 have HLEN := hZ hlen
 obtain ⟨va, vc, rfl, -⟩ := hv
 clear hb hlen
 have hB := Below.refl w.heap.size w
 go_enter Tryz.func187, Tryz.ntmps187
 go_wp2
 go_loopw [3, 8] (fun v x wr => ∃ j : Nat, j ≤ l.length ∧ x = .int .i64 j ∧ Hid (OwnL 9 PTx w wr v ((l.take j).map intTxt))) (fun _ x _ => l.length - (intOf x).toNat)
 case atStart => exact ⟨0, Nat.zero_le _, rfl, hZ (OwnL.nil _ _ hB)⟩
 case round =>
  obtain ⟨j, hj, rfl, hO⟩ := hrel
  have hBr := hO.out.bel
  obtain ⟨oa, oc, hvv⟩ := hO.out.ex
  rw [List.length_map, List.length_take, Nat.min_eq_left hj] at hvv
  subst hvv
  by_cases hlt : j < l.length
  · have hltI : (j : Int) < (l.length : Int) := by omega
    obtain ⟨a', c', he, -, vr⟩ := (HV.out.keep lims_int hBr).view
    obtain ⟨rfl, -, rfl⟩ := Value.slice.inj he
    obtain ⟨b, off, n2, a2, l2, cc2, rfl, d0, d1, hi⟩ := vr j hlt
    have bj := HBD.out j
    have HTK := hZ (take_getD 0 hlt)
    obtain ⟨x, hx⟩ : ∃ x, l.getD j 0 = x := ⟨_, rfl⟩
    rw [hx] at hi bj HTK
    have tc := fun W (h : Below wr.heap.size wr W) => intText_c _ x k W (hi.keep h) bj hk
    have zd := cell_lt d0
    have hBw := Below.refl wr.heap.size wr
    clear hx he vr hi bj
    go_wp2_with fail
    refine (tc _ bZ).mono ?_
    rintro e w2 ⟨rfl, hb2⟩
    have hb2' : Below wr.heap.size wr w2 := bthen bZ hb2
    have HO2 := hZ (hO.out.below prs_ptx hb2')
    clear tc hO d0 d1
    go_wp2_with (at_builtin; refine appL elStr prs_ptx (fun h => h) (by rfl) (by rfl) (HO2.out.below prs_ptx (bal (Below.refl _ _) _)) (show PTx _ (.string ⟨(intTxt x).toArray⟩) (intTxt x) from rfl) (by rfl) (by rfl) (cell_new rfl rfl) (by rw [List.length_map, List.length_take]; omega) (by rw [List.length_map, List.length_take]; unfold maxLen; omega) ?_)
    intro v' w8 hO8 hk8
    have HO8 := hZ (show OwnL 9 PTx w w8 v' ((l.take (j + 1)).map intTxt) from by rw [HTK.out, List.map_append, List.map_take]; exact hO8)
    clear hO8 hk8
    go_wp2
    exact ⟨⟨j + 1, by omega, by go_num, HO8⟩, by simp [intOf]; omega⟩
  · obtain rfl : j = l.length := by omega
    have hltI : ¬ (l.length : Int) < (l.length : Int) := by omega
    have HEQ := hZ (brTxt_arr (l.map intTxt))
    have jc := fun W (h : Below wr.heap.size wr W) => join_c (.slice oa l.length oc) (l.map intTxt) w.heap.size W ((by have h2 := hO.out.isL; rw [List.take_length] at h2; exact h2 : IsL 9 PTx w.heap.size wr _ _).keep prs_ptx h) (by rw [List.length_map]; omega) HLEN.out
    have hJ := HLEN.out
    obtain ⟨J, hJE⟩ : ∃ J, Lib.join (l.map intTxt) [32] = J := ⟨_, rfl⟩
    rw [hJE] at jc HEQ hJ
    clear hJE hO
    have hJ1 : ¬ 9223372036854775807 < 1 + J.length := by omega
    have hJ2 : ¬ 9223372036854775807 < 1 + J.length + 1 := by omega
    have hBw := Below.refl wr.heap.size wr
    go_wp2_with fail
    refine (jc _ bZ).mono ?_
    rintro e w2 ⟨rfl, hb2⟩
    have hb3 := bthen hBr (bthen bZ hb2)
    clear jc
    go_wp2
    go_ret
    exact ⟨congrArg (fun s => Ending.returned (.string s)) HEQ.out, bZ⟩
theorem matText_c (v : Value) (g : Grid) (k : Nat) (w : World) (hv : IsM 0 w v g) (hg : g.length ≤ 1099511627775) (hl : ∀ i, i < g.length → (g.getD i []).length ≤ 1099511627775) (hb : BdM k g) (hk : k ≤ 2147483648) (h1 : ∀ i, i < g.length → (Lib.join ((g.getD i []).map intTxt) [32]).length ≤ 140737488355328) (h2 : (Lib.join (g.map rowTxt) [32]).length ≤ 140737488355328) :
 Calls Tryz.prog 93 #[v] w fun e w' => e = .returned (.string ⟨(matTxt g).toArray⟩) ∧ Below w.heap.size w w' := by
 obtain ⟨ga, gc, rfl, hv⟩ := hv
 have HV := hZ hv
 have HBD := hZ hb
 have HLEN := hZ (And.intro hl (And.intro h1 h2))
 clear hb hl h1 h2 hv
 have hB := Below.refl w.heap.size w
 go_enter Tryz.func93, Tryz.ntmps93
 go_wp2
 refine wp_name fun w1 hW1 => ?_
 have hB1 : Below w.heap.size w w1 := by rw [hW1]; repeat (first|exact bzR _ _|exact hB|refine bzD ?_|refine bzN ?_|refine bzS ?_|refine bzA ?_)
 clear hW1
 go_loopw [3, 9] (fun v x wr => ∃ j : Nat, j ≤ g.length ∧ x = .int .i64 j ∧ Hid (OwnL 9 PTx w wr v ((g.take j).map rowTxt))) (fun _ x _ => g.length - (intOf x).toNat)
 case atStart => exact ⟨0, Nat.zero_le _, rfl, hZ (OwnL.nil _ _ hB1)⟩
 case round =>
  obtain ⟨j, hj, rfl, hO⟩ := hrel
  have hBr := hO.out.bel
  obtain ⟨oa, oc, hvv⟩ := hO.out.ex
  rw [List.length_map, List.length_take, Nat.min_eq_left hj] at hvv
  subst hvv
  by_cases hlt : j < g.length
  · have hltI : (j : Int) < (g.length : Int) := by omega
    obtain ⟨c', gb, go, ra, rc, e2, hu, hp⟩ := (HV.out.keep (prs_prow 0) hBr).row hlt
    obtain ⟨rfl, -, rfl⟩ := Value.slice.inj e2
    have bj := HBD.out j
    have HTK := hZ (take_getD [] hlt)
    have hlj := HLEN.out.1 j hlt
    have h1j := HLEN.out.2.1 j hlt
    obtain ⟨x, hx⟩ : ∃ x, g.getD j [] = x := ⟨_, rfl⟩
    rw [hx] at hu hp HTK hlj h1j
    have bj2 : ∀ i, Bd k (x.getD i 0) := fun i => by rw [← hx]; exact bj i
    have tc := fun W (h : Below wr.heap.size wr W) => rowText_c _ x k W (hp.keep lims_int h) hlj bj2 hk h1j
    have zd := cell_lt hu
    have hBw := Below.refl wr.heap.size wr
    clear hx e2 hp bj bj2 hlj h1j
    go_wp2_with fail
    refine (tc _ bZ).mono ?_
    rintro e w2 ⟨rfl, hb2⟩
    have hb2' : Below wr.heap.size wr w2 := bthen bZ hb2
    have HO2 := hZ (hO.out.below prs_ptx hb2')
    clear tc hO hu
    go_wp2_with (at_builtin; refine appL elStr prs_ptx (fun h => h) (by rfl) (by rfl) (HO2.out.below prs_ptx (bal (Below.refl _ _) _)) (show PTx _ (.string ⟨(rowTxt x).toArray⟩) (rowTxt x) from rfl) (by rfl) (by rfl) (cell_new rfl rfl) (by rw [List.length_map, List.length_take]; omega) (by rw [List.length_map, List.length_take]; unfold maxLen; omega) ?_)
    intro v' w8 hO8 hk8
    have HO8 := hZ (show OwnL 9 PTx w w8 v' ((g.take (j + 1)).map rowTxt) from by rw [HTK.out, List.map_append, List.map_take]; exact hO8)
    clear hO8 hk8
    go_wp2
    exact ⟨⟨j + 1, by omega, by go_num, HO8⟩, by simp [intOf]; omega⟩
  · obtain rfl : j = g.length := by omega
    have hltI : ¬ (g.length : Int) < (g.length : Int) := by omega
    have HEQ := hZ (brTxt_arr (g.map rowTxt))
    have jc := fun W (h : Below wr.heap.size wr W) => join_c (.slice oa g.length oc) (g.map rowTxt) w.heap.size W ((by have h2 := hO.out.isL; rw [List.take_length] at h2; exact h2 : IsL 9 PTx w.heap.size wr _ _).keep prs_ptx h) (by rw [List.length_map]; omega) HLEN.out.2.2
    have hJ := HLEN.out.2.2
    obtain ⟨J, hJE⟩ : ∃ J, Lib.join (g.map rowTxt) [32] = J := ⟨_, rfl⟩
    rw [hJE] at jc HEQ hJ
    clear hJE hO
    have hJ1 : ¬ 9223372036854775807 < 1 + J.length := by omega
    have hJ2 : ¬ 9223372036854775807 < 1 + J.length + 1 := by omega
    have hBw := Below.refl wr.heap.size wr
    go_wp2_with fail
    refine (jc _ bZ).mono ?_
    rintro e w2 ⟨rfl, hb2⟩
    have hb3 := bthen hBr (bthen bZ hb2)
    clear jc
    go_wp2
    go_ret
    exact ⟨congrArg (fun s => Ending.returned (.string s)) HEQ.out, bZ⟩
end
section
open Num
attribute [local go_sem ↓] Go.wp_at_zero Go.wp_at_succ
theorem cmpI_zero {x y : Int} : cmpI x y = 0 ↔ x = y := by
 unfold cmpI
 split
 · constructor
   · intro h; cases h
   · intro h; omega
 · split
   · simp [*]
   · constructor
     · intro h; cases h
     · intro h; contradiction
end
end Go.Proofs.YtbmaffijncapiaaGreatDoor
