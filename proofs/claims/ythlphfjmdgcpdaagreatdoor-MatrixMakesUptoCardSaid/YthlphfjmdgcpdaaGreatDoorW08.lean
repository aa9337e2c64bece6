/- Texts of this seat, laid together: TxtR, LimbJ, PrgC, PrgD. Each opens with its own remark, which says what it proves, and under which conditions. -/
import Derived.Test.YthlphfjmdgcpdaaGreatDoorW07
import Derived.Test.YthlphfjmdgcpdaaGreatDoorW03
import Derived.Laws.IdiomStrings
import Derived.Laws.BytesArg
import Derived.Deep.LoopGhost
import Derived.Test.YthlphfjmdgcpdaaGreatDoorW06
import Derived.Test.YthlphfjmdgcpdaaGreatDoorW02
import Derived.Test.YthlphfjmdgcpdaaGreatDoorW01
import Derived.Laws.AppendOwn
set_option linter.unusedVariables false
set_option linter.unusedSimpArgs false
/- Rows of bytes of the call's own; the reference's Text. -/
namespace Go.Proofs.YthlphfjmdgcpdaaGreatDoor
open Num
open Go.ChangeShapes Go.WideShapes Go.ChangeAt Go.RowKit
set_option linter.unusedVariables false
set_option linter.unusedSimpArgs false
theorem info8 : (Tryz.prog.info? 5).map (fun i => (i.zero, i.size, i.bytes)) = some (some (.int .u8 0), 1, 1) := by kernel_rfl
theorem el8 : Elt Tryz.prog 147 5 1 1 := Elt.mk' Tryz.underlying147 info8 rfl (by decide) (by decide)
/-- bytes of the call's own -/
def Own8 (w0 wr : World) (v : Value) (L : List UInt8) : Prop := OwnE 5 1 w0 wr v L.length (Lib.byteCells L)
theorem Own8.below {w0 wr w' : World} {v : Value} {L : List UInt8} (h : Own8 w0 wr v L) (hb : Below wr.heap.size wr w') : Own8 w0 w' v L := OwnE.below h hb
theorem Own8.nil {w0 wr : World} (hb : Below w0.heap.size w0 wr) : Own8 w0 wr (.slice none 0 0) [] := OwnE.nil _ _ hb
theorem bcells_app (l m : List UInt8) : Lib.byteCells (l ++ m) = Lib.byteCells l ++ Lib.byteCells m := by simp [Lib.byteCells]
theorem bcells_one (l : List UInt8) : ∀ v ∈ Lib.byteCells l, v.oneCell' = true := by
  intro v hv; simp only [Lib.byteCells, List.mem_map] at hv; obtain ⟨x, _, rfl⟩ := hv; rfl
theorem bcells_get (l : List UInt8) (k : Nat) (h : k < l.length) : (Lib.byteCells l)[k]? = some (.int .u8 ((l.getD k 0).toNat : Nat)) := by simp [Lib.byteCells, h]
theorem Own8.ex {w0 wr : World} {v : Value} {L : List UInt8} (h : Own8 w0 wr v L) : (v = .slice none 0 0 ∧ L = []) ∨ ∃ g cap, v = .slice (some ⟨g, 0, none⟩) L.length cap ∧ w0.heap.size ≤ g ∧ L.length ≤ cap := by
  obtain ⟨⟨h0, h⟩, _⟩ := h
  rcases h with ⟨rfl, h1⟩ | ⟨g, cap, cur, rfl, hg, _, hc, _⟩
  · exact .inl ⟨rfl, List.length_eq_zero_iff.1 h1⟩
  · exact .inr ⟨g, cap, rfl, hg, hc⟩
theorem Own8.shape {w0 wr : World} {v : Value} {L : List UInt8} (h : Own8 w0 wr v L) : ∃ a c, v = .slice a L.length c := by
  rcases h.ex with ⟨rfl, rfl⟩ | ⟨g, cap, rfl, _⟩
  · exact ⟨none, 0, rfl⟩
  · exact ⟨_, _, rfl⟩
theorem Own8.cell {w0 wr : World} {g cap : Nat} {L : List UInt8} (h : Own8 w0 wr (.slice (some ⟨g, 0, none⟩) L.length cap) L) (k : Nat) (hk : k < L.length) : wr.cell? ⟨g, k, none⟩ = some (.int .u8 ((L.getD k 0).toNat : Nat)) := by
  rw [World.ownsRow.cellAt h.1 k (by omega), bcells_get L k hk]
theorem Own8.frozen {w0 wr : World} {g cap : Nat} {L : List UInt8} (h : Own8 w0 wr (.slice (some ⟨g, 0, none⟩) L.length cap) L) (k : Nat) : wr.frozen? ⟨g, k, none⟩ = false := World.ownsRow.frozenAt h.1 k
theorem Own8.set {w0 wr : World} {g cap : Nat} {L : List UInt8} (h : Own8 w0 wr (.slice (some ⟨g, 0, none⟩) L.length cap) L) (k : Nat) (x : UInt8) (hg : w0.heap.size ≤ g) : Own8 w0 (wr.setCell ⟨g, k, none⟩ (.int .u8 (x.toNat : Nat))) (.slice (some ⟨g, 0, none⟩) L.length cap) (L.set k x) := by
  obtain ⟨⟨hl, h1⟩, hB⟩ := h
  rcases h1 with ⟨h2, _⟩ | ⟨g', cap', cur, h2, hg', hh, hc, hm, hs, ht⟩
  · cases h2
  · cases h2
    refine ⟨⟨by simp [Lib.byteCells], .inr ⟨g, cap, cur.setIfInBounds k (.int .u8 (x.toNat : Nat)), by simp, hg', ?_, by simpa using hc, hm, by simpa using hs, ?_⟩⟩, bset hB (by exact hg) _⟩
    · unfold World.setCell
      simp only [Array.getElem?_modify, if_true]
      rw [hh]; rfl
    · rw [Array.toList_setIfInBounds, List.length_set, List.take_set, ht]
      simp [Lib.byteCells, List.map_set]
theorem Own8.str {w0 wr : World} {a : Option Addr} {c : Nat} {L : List UInt8} (h : Own8 w0 wr (.slice a L.length c) L) : (convert 147 9 (.slice a L.length c)).run Tryz.prog wr = .ok (.string ⟨L.toArray⟩) wr := by
  rcases h.ex with ⟨h1, h2⟩ | ⟨g, cap, h1, _⟩
  · subst h2
    cases h1
    exact run_convert_bytes_nil wr 147 5 Tryz.underlying147 Tryz.underlying5 0 0 9 Tryz.underlying9
  · cases h1
    refine run_convert_bytes_back wr 147 9 5 ⟨g, 0, none⟩ c L Tryz.underlying147 Tryz.underlying5 Tryz.underlying9 fun j hj => ?_
    have := h.cell j hj
    unfold Addr.add
    split
    · subst_vars; simpa [hj] using this
    · simpa [hj] using this
theorem app8 {ops : Array Oper} {rest : List Oper} {o : Oper} {a : Act} {Q : Exit → Act → World → Prop} {w0 wr : World} {v : Value} {L X : List UInt8} {t : TypeId} (hgd : o.guard = none) {s x : Operand}
    (ho : o.op = .call { callee := .builtin .append, args := #[s, x], argTypes := #[147, 147] }) (hO : Own8 w0 wr v L) (hs : a.eval s = v)
    {c : Nat} (hx : a.eval x = .slice (some ⟨wr.heap.size, 0, none⟩) X.length c) (hn : L.length + X.length ≤ 1099511627776)
    (h : ∀ v' w', Own8 w0 w' v' (L ++ X) → Lim wr w' → Out (fun k => v.ownBlock = some k) wr w' → wpList Tryz.prog ops Q rest (a.put o.dst v') w') : wpList Tryz.prog ops Q (o :: rest) a (wr.alloc (.cells (Lib.byteCells X).toArray t)) := by
  obtain ⟨i, z, hi, hz, hsize, hby, hzs⟩ := el8.info
  refine wpList_append_own _ hgd s x 147 ho w0.heap.size 5 i z 1 1 el8.ht hi hz hsize hby hzs el8.pos v L.length (Lib.byteCells L) hs (hO.1.alloc _) ⟨wr.heap.size, 0, none⟩ X.length c (Lib.byteCells X) hx (by rw [Lib.byteCells_length, Nat.mul_one]) (cells_new wr _ t) (bcells_one X) (by unfold maxLen; omega) (by omega) (by have := hO.2.size; simp; omega) ?_
  intro v' w' hown hg _
  have hl : Lim wr w' := ((Lim.refl wr).alloc _).grown hg fun g hg' ht => (by decide : 5 ≠ 121) (by
    rw [typ_keep (own_typ hO hg') (bal (Below.refl _ _) _)] at ht
    exact Option.some.inj ht)
  exact h v' w' ⟨by rw [bcells_app, List.length_append]; exact hown, below_append (wr := wr) (bal hO.2 _) (hO.1.alloc _) hg⟩ hl (((Out.refl _ wr).alloc _).grown hg fun k hk _ => hk)
namespace Num
def dig (d : Nat) : UInt8 := UInt8.ofNat (48 + d)
theorem dig_nat {d : Nat} (h : d < 10) : (dig d).toNat = 48 + d := by
  unfold dig; rw [UInt8.toNat_ofNat']; omega
theorem asc_eq (l : List Nat) : asc l = (l.map dig).reverse := by unfold asc; rw [← List.map_reverse]; rfl
/-- turned about so far -/
def turned (T : List UInt8) (i : Nat) : List UInt8 := (List.range T.length).map fun j => if j < i ∨ T.length - 1 - j < i then T.getD (T.length - 1 - j) 0 else T.getD j 0
theorem turned_len (T : List UInt8) (i : Nat) : (turned T i).length = T.length := by simp [turned]
theorem turned_get (T : List UInt8) (i j : Nat) (h : j < T.length) : (turned T i).getD j 0 = if j < i ∨ T.length - 1 - j < i then T.getD (T.length - 1 - j) 0 else T.getD j 0 := by
  simp [turned, h]
theorem turned_zero (T : List UInt8) : turned T 0 = T := by
  apply List.ext_getElem
  · simp [turned]
  · intro j h1 h2
    simp [turned, h2]
theorem turned_step {T : List UInt8} {i : Nat} (h : i < T.length / 2) : ((turned T i).set i ((turned T i).getD (T.length - 1 - i) 0)).set (T.length - 1 - i) ((turned T i).getD i 0) = turned T (i + 1) := by
  have e1 : (turned T i).getD i 0 = T.getD i 0 := by rw [turned_get T i i (by omega), if_neg (by omega)]
  have e2 : (turned T i).getD (T.length - 1 - i) 0 = T.getD (T.length - 1 - i) 0 := by rw [turned_get T i _ (by omega), if_neg (by omega)]
  rw [e1, e2]
  apply List.ext_getElem
  · simp [turned]
  · intro j h1 h2
    have hj : j < T.length := by simpa [turned] using h2
    rw [List.getElem_set, List.getElem_set]
    simp only [turned, List.getElem_map, List.getElem_range]
    by_cases h3 : T.length - 1 - i = j
    · rw [if_pos h3, if_pos (by omega)]; congr 1; omega
    · rw [if_neg h3]
      by_cases h4 : i = j
      · rw [if_pos h4, if_pos (by omega), h4]
      · rw [if_neg h4]
        by_cases h5 : j < i ∨ T.length - 1 - j < i
        · rw [if_pos h5, if_pos (by omega)]
        · rw [if_neg h5, if_neg (by omega)]
theorem turned_end (T : List UInt8) {i : Nat} (h : T.length / 2 ≤ i) : turned T i = T.reverse := by
  apply List.ext_getElem
  · simp [turned]
  · intro j h1 h2
    have hj : j < T.length := by simpa [turned] using h1
    simp only [turned, List.getElem_map, List.getElem_range, List.getElem_reverse]
    by_cases h5 : j < i ∨ T.length - 1 - j < i
    · rw [if_pos h5]; simp [show T.length - 1 - j < T.length by omega]
    · rw [if_neg h5]
      have e : T.length - 1 - j = j := by omega
      simp only [e]; simp [hj]
theorem intTxt_zero : intTxt 0 = [48] := by simp [intTxt, natTxt]
theorem intTxt_sg {neg : Bool} {V : Nat} (hV : 0 < V) : intTxt (sg neg V) = ((lowD V).map dig ++ (if neg then [45] else [])).reverse := by
  unfold intTxt natTxt
  rw [sg_abs, if_neg (by omega : ¬ V = 0), asc_eq]
  cases neg with
  | true => rw [if_pos (by simp [sg]; omega)]; simp
  | false => rw [if_neg (by simp [sg])]; simp
end Num


set_option maxRecDepth 100000 in
set_option maxHeartbeats 8000000 in
theorem rtext_c (vx : Value) (x : Int) (k : Nat) (w : World) (hx : IsRef w vx x) (bx : Bd k x) (hk : k ≤ 1073741824) :
    Calls Tryz.prog 57 #[vx] w fun e w' => e = .returned (.string ⟨(intTxt x).toArray⟩) ∧ Below w.heap.size w w' := by
  obtain ⟨n1, a1, c1, l1, rfl, u1, q1, g1, s1, rfl⟩ := hx
  have k1 : l1.length ≤ 67108865 := by
    by_cases h0 : l1 = []
    · subst h0; simp
    · have h1 := NumR.nrm_val_pos g1 h0
      rw [NumR.BB_pow] at h1
      have h2 : 16 * (l1.length - 1) < k := (Nat.pow_lt_pow_iff_right (a := 2) (by omega)).1 (Nat.lt_of_le_of_lt h1 (rsg_bd bx))
      omega
  have HX := Lib.hid (And.intro s1 bx)
  have HPL := Lib.hid (show (lowD (NumR.val l1)).length ≤ 1073741824 from Nat.le_trans (lowD_len k _ (rsg_bd bx)) hk)
  clear bx s1
  unfold iv
  have hB := Below.refl w.heap.size w
  go_enter Tryz.func57, Tryz.ntmps57
  go_wp2
  refine wp_name fun w0 hW0 => ?_
  have x0 : w0.cell? ⟨w.heap.size, 0, none⟩ = some (.bool n1) := by rw [hW0]; exact (by first | assumption | exact cell_new (by with_reducible first | rfl | (simp; done) | (simp; omega)) rfl | (repeat (first | assumption | exact cell_new (by with_reducible first | rfl | (simp; done) | (simp; omega)) rfl | refine cell_alloc ?_ _ | refine cell_drew ?_ | refine cell_drewN ?_ _ | refine cell_far ?_ (by simp) _ | (refine cell_far ?_ (by simp <;> omega) _))) | simp [go_sem, *])
  have zx0 := cell_lt x0
  have x1 : w0.cell? ⟨w.heap.size, 1, none⟩ = some (.slice a1 l1.length c1) := by rw [hW0]; exact (by first | assumption | exact cell_new (by with_reducible first | rfl | (simp; done) | (simp; omega)) rfl | (repeat (first | assumption | exact cell_new (by with_reducible first | rfl | (simp; done) | (simp; omega)) rfl | refine cell_alloc ?_ _ | refine cell_drew ?_ | refine cell_drewN ?_ _ | refine cell_far ?_ (by simp) _ | (refine cell_far ?_ (by simp <;> omega) _))) | simp [go_sem, *])
  have hB : Below w.heap.size w w0 := by rw [hW0]; repeat (first | exact Below.refl _ _ | exact hB | refine Below.drew ?_ | refine below_drewN ?_ _ | refine bset ?_ (by simp <;> omega) _ | refine bal ?_ _)
  have hz : w.heap.size ≤ w0.heap.size := hB.size
  clear hW0
  have hu0 := u1.keep hB
  go_loopg [3, 4] (NumR.val l1) (fun gk d v wr => ∃ (P : List Nat) (ad : Option Addr) (cd : Nat) (L : List Nat), v = .slice ad L.length cd ∧ U32 wr ad cd L ∧ NumR.Limbs L ∧ Nrm L ∧ L.length ≤ 67108865 ∧ gk = NumR.val L ∧ Own8 w0 wr d (P.map dig) ∧ lowD (NumR.val l1) = P ++ lowD (NumR.val L))
  case atStart => exact ⟨[], a1, c1, l1, rfl, hu0, q1, g1, k1, rfl, Own8.nil (Below.refl _ _), rfl⟩
  case round =>
    obtain ⟨P, ad, cd, L, rfl, hu, hl, hn, hlm, hgk, hO, hP⟩ := hrel
    have HP := Lib.hid (And.intro hgk hP)
    clear hgk hP
    have hPl : P.length ≤ 1073741824 := by have h1 := congrArg List.length HP.out.2; have h2 := HPL.out; rw [h1, List.length_append] at h2; omega
    have hPm : (P.map dig).length ≤ 1073741824 := by simpa using hPl
    by_cases hL : 0 < L.length
    · have hLz : (0 : Int) < (L.length : Int) := by omega
      have hv0 : 0 < NumR.val L := by
        have h1 := NumR.nrm_val_pos hn (List.length_pos_iff.1 hL)
        have : 0 < NumR.BB ^ (L.length - 1) := Nat.pow_pos NumR.BB_pos
        omega
      have dc := fun (g : Nat) (W : World) (h : Below wr.heap.size wr W) (hg : g = W.heap.size) => rdivide_c ad (some ⟨g, 0, none⟩) cd 1 L [10] (W.alloc (.cells (cel [10]).toArray 121)) (hu.keep (bal h _)) ((blk_at hg).u32 (fun x hx => by simp at hx; subst hx; unfold BB; omega) (by simp [maxLen])) hl (fun x hx => by simp at hx; subst hx; unfold NumR.BB; omega) hn (fun _ => by simp) (by simp [NumR.val]) (by omega) (by simp)
      rw [show NumR.val [10] = 10 by simp [NumR.val]] at dc
      simp only [List.length_cons, List.length_nil, Nat.zero_add] at dc
      go_wp2_with fail
      refine (dc _ _ (Below.refl _ _) rfl).mono ?_
      rintro e w2 ⟨⟨u, v, rfl, hq, hr⟩, hb2⟩
      have hO2 := hO.below (bthen (bal (Below.refl _ _) _) hb2)
      clear dc hO hu
      obtain ⟨aq, cq, Lq, rfl, hqu, hql, hqn, hqv⟩ := hq
      obtain ⟨ar, cr, Lr, rfl, hru, hrl, hrn, hrv⟩ := hr
      have hLqm : Lq.length ≤ 67108865 := by
        apply Nat.le_trans _ hlm
        apply Nat.le_of_not_lt; intro h
        have := NumR.val_lt_of_len hl hqn h
        omega
      have HV := Lib.hid (And.intro hqv hrv)
      have HN := Lib.hid (show lowD (NumR.val L) = NumR.val L % 10 :: lowD (NumR.val L / 10) from lowD_pos hv0)
      have HLT := Lib.hid (show NumR.val L / 10 < NumR.val L by omega)
      clear hqv
      by_cases hc : NumR.val L % 10 = 0
      · obtain rfl : Lr = [] := (NumR.val_nil_iff hrn).1 (by rw [hrv]; exact hc)
        have HC := Lib.hid hc
        clear hc hrv
        go_wp2_with (at_builtin; refine app8 (X := [48]) rfl rfl hO2 rfl rfl ?_ ?_; (simp; omega); intro v' w3 hO3 hlim3 _)
        go_roundg (NumR.val L / 10)
        case measure => rw [HP.out.1]; exact HLT.out
        case rel => exact ⟨P ++ [0], aq, cq, Lq, rfl, hqu.lim hlim3, hql, hqn, hLqm, HV.out.1.symm, by simpa [show dig 0 = 48 from rfl] using hO3, by rw [HV.out.1, HP.out.2, HN.out, HC.out]; simp⟩
      · obtain ⟨c, rfl⟩ : ∃ c, Lr = [c] := by
          apply List.length_eq_one_iff.1
          have h1 : Lr ≠ [] := by intro e; subst e; apply hc; rw [← hrv]; rfl
          have h2 := NumR.nrm_val_pos hrn h1
          have h3 := List.length_pos_iff.2 h1
          have h4 : Lr.length - 1 = 0 := by
            apply Nat.eq_zero_of_not_pos; intro h
            have h5 : NumR.BB ^ 1 ≤ NumR.BB ^ (Lr.length - 1) := Nat.pow_le_pow_right NumR.BB_pos h
            have h6 : NumR.val L % 10 < 10 := Nat.mod_lt _ (by omega)
            unfold NumR.BB at *
            omega
          omega
        have hce : c = NumR.val L % 10 := by rw [← hrv]; simp [NumR.val]
        rcases hru.2.2.2 with h0 | ⟨br, or', rfl, hcr⟩
        · cases h0
        have c0 := hcr 0 (by simp)
        simp only [List.getD_cons_zero, Nat.add_zero] at c0
        have hc10' : c < 10 := by omega
        have HC := Lib.hid hce
        clear hc hce hrv hcr hru
        -- the digit c is put on
        have hc10 : c < 10 := by omega
        obtain ⟨bb, hbb⟩ : ∃ bb, bb = dig (c) := ⟨_, rfl⟩
        have hb1 : (48 : Int) + ((c : Nat) : Int) = (bb.toNat : Int) := by rw [hbb, dig_nat hc10]; omega
        have hb2 : (bb.toNat : Int) % 256 = (bb.toNat : Int) := by have := bb.toNat_lt; omega
        have hb3 : IntKind.u32.wrap (bb.toNat : Int) = (bb.toNat : Int) := w32 (by have := bb.toNat_lt; unfold BB; omega)
        have HBB := Lib.hid hbb
        clear hbb
        go_wp2_with (at_builtin; refine app8 (X := [bb]) rfl rfl hO2 rfl rfl ?_ ?_; (simp; omega); intro v' w3 hO3 hlim3 _)
        go_roundg (NumR.val L / 10)
        case measure => rw [HP.out.1]; exact HLT.out
        case rel => exact ⟨P ++ [c], aq, cq, Lq, rfl, hqu.lim hlim3, hql, hqn, hLqm, HV.out.1.symm, by rw [HBB.out] at hO3; simpa using hO3, by rw [HV.out.1, HP.out.2, HN.out, HC.out]; simp⟩
    · obtain rfl : L = [] := List.length_eq_zero_iff.1 (by omega)
      have hPN := HP.out.2
      rw [show NumR.val [] = 0 from rfl, lowD_zero, List.append_nil] at hPN
      have x0w := x0
      have hB2 := bthen hB hO.2
      have y0 := bkeep hO.2 x0
      by_cases hP0 : P = []
      · subst hP0
        have hN0 : NumR.val l1 = 0 := by
          apply Nat.eq_zero_of_not_pos; intro h
          exact lowD_ne h hPN
        have HE := Lib.hid (show intTxt (sg n1 (NumR.val l1)) = [48] by rw [hN0]; cases n1 <;> simp [sg, intTxt_zero])
        obtain ⟨a9, c9, rfl⟩ := hO.shape
        clear hPN hN0 hu hO
        simp only [List.map_nil, List.length_nil]
        go_wp2
        go_ret
        exact ⟨by rw [HE.out]; rfl, hB2⟩
      · have hN0 : 0 < NumR.val l1 := by
          apply Nat.pos_of_ne_zero; intro h
          rw [h, lowD_zero] at hPN
          exact hP0 hPN.symm
        have HE := Lib.hid (show intTxt (sg n1 (NumR.val l1)) = (P.map dig ++ (if n1 then [45] else [])).reverse by rw [intTxt_sg hN0, hPN])
        have hPz : (((P.map dig).length : Int) == 0) = false := by rw [beq_eq_false_iff_ne]; simp; exact hP0
        obtain ⟨a8, c8, rfl⟩ := hO.shape
        clear hPN hN0 hu hP0
        cases n1 with
        | true =>
          simp only [if_true] at HE
          generalize P.map dig = S at *
          go_wp2_with (at_builtin; refine app8 (X := [45]) rfl rfl hO rfl rfl ?_ ?_; (simp; omega); intro v' w3 hO3 _ _; (obtain ⟨a8, c8, rfl⟩ := hO3.shape); (have hTm : (S ++ [45]).length ≤ 1073741825 := by simp; omega); clear hO; generalize S ++ [45] = T at *)
          go_loopw [8] (fun x wi => ∃ i : Nat, i ≤ T.length / 2 ∧ x = .int .i64 i ∧ Own8 w0 wi (.slice a8 T.length c8) (turned T i)) (fun x _ => T.length / 2 - (intOf x).toNat)
          case atStart => exact ⟨0, Nat.zero_le _, rfl, by rw [turned_zero]; exact hO3⟩
          case round =>
            rename World => wi
            obtain ⟨i, hi, rfl, hOi⟩ := hrel
            have hlen := turned_len T i
            by_cases hlt : i < T.length / 2
            · have hltz : (i : Int) < (T.length : Int) / 2 := by omega
              have hltz2 : (i : Int) < (T.length : Int).tdiv 2 := by rw [Int.tdiv_eq_ediv_of_nonneg (by omega)]; exact hltz
              have hOi' := hOi
              rw [← hlen] at hOi'
              rcases hOi'.ex with ⟨h0, hT⟩ | ⟨g, cap, hv, hg, hcap⟩
              · exfalso; rw [hT] at hlen; simp at hlen; omega
              cases hv
              obtain ⟨j, hj⟩ : ∃ j, j = T.length - 1 - i := ⟨_, rfl⟩
              have q0 := hOi'.cell i (by omega)
              have q1 := hOi'.cell j (by omega)
              have qf := hOi'.frozen i
              have qg := hOi'.frozen j
              have HS := Lib.hid (turned_step hlt)
              rw [← hj] at HS
              have hO4 := hOi'.set i ((turned T i).getD j 0) hg
              have hO5 := (show Own8 w0 _ (.slice (some ⟨g, 0, none⟩) ((turned T i).set i ((turned T i).getD j 0)).length c8) _ by rw [List.length_set]; exact hO4).set j ((turned T i).getD i 0) hg
              rw [HS.out, List.length_set, hlen] at hO5
              have HO5 := Lib.hid hO5
              have g1 : (T.length : Int) - 1 - (i : Int) = (j : Int) := by omega
              have g2 : IntKind.i64.wrap ((T.length : Int) - 1) = (T.length : Int) - 1 := by rw [IntKind.wrap_i64]; omega
              have g3 : IntKind.i64.wrap ((T.length : Int) - 1 - (i : Int)) = (j : Int) := by rw [IntKind.wrap_i64]; omega
              have hji : i ≠ j := by omega
              have hij : j ≠ i := by omega
              have hiT : (i : Int) < (T.length : Int) := by omega
              have hjT : (j : Int) < (T.length : Int) := by omega
              clear hO4 hO5 hOi hOi' hlen hj
              generalize (turned T i).getD j 0 = bj at *
              generalize (turned T i).getD i 0 = bi at *
              go_wp2
              go_region
              all_goals
                go_wp2
                refine ⟨⟨i + 1, by omega, by go_num, ?_⟩, by simp [intOf] <;> omega⟩
                exact ⟨HO5.out.1, HO5.out.2.drew⟩
            · have HO := Lib.hid (show Own8 w0 wi (.slice a8 T.length c8) T.reverse by rw [← turned_end T (i := i) (Nat.le_of_not_lt hlt)]; exact hOi)
              have hcv := (show Own8 w0 wi (.slice a8 T.reverse.length c8) T.reverse by rw [List.length_reverse]; exact HO.out).str
              rw [List.length_reverse, ← HE.out] at hcv
              have hB9 := bthen hB HO.out.2
              have hltz : ¬ (i : Int) < (T.length : Int) / 2 := by omega
              have hltz2 : ¬ (i : Int) < (T.length : Int).tdiv 2 := by rw [Int.tdiv_eq_ediv_of_nonneg (by omega)]; exact hltz
              clear hOi hlen
              go_wp2
              go_ret
              exact ⟨rfl, hB9⟩
        | false =>
          simp only [Bool.false_eq_true, if_false, List.append_nil] at HE
          generalize P.map dig = T at *
          have hTm : T.length ≤ 1073741825 := by omega
          have hO3 := hO
          clear hO
          go_wp2
          go_loopw [8] (fun x wi => ∃ i : Nat, i ≤ T.length / 2 ∧ x = .int .i64 i ∧ Own8 w0 wi (.slice a8 T.length c8) (turned T i)) (fun x _ => T.length / 2 - (intOf x).toNat)
          case atStart => exact ⟨0, Nat.zero_le _, rfl, by rw [turned_zero]; exact hO3⟩
          case round =>
            rename World => wi
            obtain ⟨i, hi, rfl, hOi⟩ := hrel
            have hlen := turned_len T i
            by_cases hlt : i < T.length / 2
            · have hltz : (i : Int) < (T.length : Int) / 2 := by omega
              have hltz2 : (i : Int) < (T.length : Int).tdiv 2 := by rw [Int.tdiv_eq_ediv_of_nonneg (by omega)]; exact hltz
              have hOi' := hOi
              rw [← hlen] at hOi'
              rcases hOi'.ex with ⟨h0, hT⟩ | ⟨g, cap, hv, hg, hcap⟩
              · exfalso; rw [hT] at hlen; simp at hlen; omega
              cases hv
              obtain ⟨j, hj⟩ : ∃ j, j = T.length - 1 - i := ⟨_, rfl⟩
              have q0 := hOi'.cell i (by omega)
              have q1 := hOi'.cell j (by omega)
              have qf := hOi'.frozen i
              have qg := hOi'.frozen j
              have HS := Lib.hid (turned_step hlt)
              rw [← hj] at HS
              have hO4 := hOi'.set i ((turned T i).getD j 0) hg
              have hO5 := (show Own8 w0 _ (.slice (some ⟨g, 0, none⟩) ((turned T i).set i ((turned T i).getD j 0)).length c8) _ by rw [List.length_set]; exact hO4).set j ((turned T i).getD i 0) hg
              rw [HS.out, List.length_set, hlen] at hO5
              have HO5 := Lib.hid hO5
              have g1 : (T.length : Int) - 1 - (i : Int) = (j : Int) := by omega
              have g2 : IntKind.i64.wrap ((T.length : Int) - 1) = (T.length : Int) - 1 := by rw [IntKind.wrap_i64]; omega
              have g3 : IntKind.i64.wrap ((T.length : Int) - 1 - (i : Int)) = (j : Int) := by rw [IntKind.wrap_i64]; omega
              have hji : i ≠ j := by omega
              have hij : j ≠ i := by omega
              have hiT : (i : Int) < (T.length : Int) := by omega
              have hjT : (j : Int) < (T.length : Int) := by omega
              clear hO4 hO5 hOi hOi' hlen hj
              generalize (turned T i).getD j 0 = bj at *
              generalize (turned T i).getD i 0 = bi at *
              go_wp2
              go_region
              all_goals
                go_wp2
                refine ⟨⟨i + 1, by omega, by go_num, ?_⟩, by simp [intOf] <;> omega⟩
                exact ⟨HO5.out.1, HO5.out.2.drew⟩
            · have HO := Lib.hid (show Own8 w0 wi (.slice a8 T.length c8) T.reverse by rw [← turned_end T (i := i) (Nat.le_of_not_lt hlt)]; exact hOi)
              have hcv := (show Own8 w0 wi (.slice a8 T.reverse.length c8) T.reverse by rw [List.length_reverse]; exact HO.out).str
              rw [List.length_reverse, ← HE.out] at hcv
              have hB9 := bthen hB HO.out.2
              have hltz : ¬ (i : Int) < (T.length : Int) / 2 := by omega
              have hltz2 : ¬ (i : Int) < (T.length : Int).tdiv 2 := by rw [Int.tdiv_eq_ediv_of_nonneg (by omega)]; exact hltz
              clear hOi hlen
              go_wp2
              go_ret
              exact ⟨rfl, hB9⟩
end Go.Proofs.YthlphfjmdgcpdaaGreatDoor

/- limb: less (v, so many times, is taken from a part of u). -/
namespace Go.Proofs.YthlphfjmdgcpdaaGreatDoor
open Num
open Go.ChangeShapes Go.WideShapes Go.ChangeAt Go.RowKit
set_option linter.unusedVariables false
set_option linter.unusedSimpArgs false
/-- a block of limbs that may be written, whose first cells are l -/
def Rw32 (w : World) (g : Nat) (l : List Nat) : Prop := ∃ cur, w.heap[g]? = some (.cells cur 121 (0, 0)) ∧ cur.toList.take l.length = cel l
theorem Rw32.cell {w : World} {g : Nat} {l : List Nat} (h : Rw32 w g l) (k : Nat) (hk : k < l.length) : w.cell? ⟨g, k, none⟩ = some (.int .u32 (l.getD k 0 : Nat)) := by
  obtain ⟨cur, h1, h2⟩ := h
  have := cel_get l k hk
  rw [← h2, List.getElem?_take_of_lt hk] at this
  unfold World.cell?
  rw [show w.heap[(⟨g, k, none⟩ : Addr).block]? = _ from h1]
  simpa using this
theorem Rw32.frozen {w : World} {g : Nat} {l : List Nat} (h : Rw32 w g l) (k : Nat) : w.frozen? ⟨g, k, none⟩ = false := by
  obtain ⟨cur, h1, _⟩ := h
  unfold World.frozen?
  rw [show w.heap[(⟨g, k, none⟩ : Addr).block]? = _ from h1]
  simp
theorem Rw32.lt {w : World} {g : Nat} {l : List Nat} (h : Rw32 w g l) : g < w.heap.size := by obtain ⟨cur, h1, _⟩ := h; exact (Array.getElem?_eq_some_iff.1 h1).1
theorem Rw32.keep {w w' : World} {g : Nat} {l : List Nat} (h : Rw32 w g l) (hb : Below w.heap.size w w') : Rw32 w' g l := by
  have hl := h.lt
  obtain ⟨cur, h1, h2⟩ := h
  exact ⟨cur, (hb.block g hl).trans h1, h2⟩
theorem Rw32.set {w : World} {g : Nat} {l : List Nat} (h : Rw32 w g l) (k x : Nat) : Rw32 (w.setCell ⟨g, k, none⟩ (.int .u32 (x : Int))) g (l.set k x) := by
  obtain ⟨cur, h1, h2⟩ := h
  refine ⟨cur.setIfInBounds k (.int .u32 (x : Int)), ?_, ?_⟩
  · unfold World.setCell
    simp only [Array.getElem?_modify, if_true]
    rw [show w.heap[g]? = _ from h1]
    rfl
  · rw [Array.toList_setIfInBounds, List.length_set, List.take_set, h2]
    simp [cel, List.map_set]
theorem Rw32.out {X : Nat → Prop} {w w' : World} {g : Nat} {l : List Nat} (h : Rw32 w g l) (ho : Out X w w') (hx : ¬ X g) : Rw32 w' g l := by
  have hl := h.lt
  obtain ⟨cur, h1, h2⟩ := h
  exact ⟨cur, (ho.block g hl hx).trans h1, h2⟩
theorem Rw32.u32 {w : World} {g : Nat} {l : List Nat} (h : Rw32 w g l) (hl : Limbs l) {c : Nat} (hc : l.length ≤ c) (hm : c ≤ maxLen) : U32 w (some ⟨g, 0, none⟩) c l :=
  ⟨hc, hm, hl, .inr ⟨g, 0, rfl, fun k hk => by simpa using h.cell k hk, by obtain ⟨cur, h1, _⟩ := h; unfold typOf; rw [h1]⟩⟩
theorem Blk.rw {w : World} {g : Nat} {l : List Nat} (h : Blk w g l) : Rw32 w g l := ⟨_, h, by rw [show ((cel l).toArray).toList = cel l from rfl, List.take_of_length_le (by rw [cel_len]; omega)]⟩
namespace Num
theorem less_step {O U V : List Nat} {k i c b t x : Nat} (hO : k + i < O.length) (hU : k + i < U.length) (hx : x = U.getD (k + i) 0)
    (h : win O k i + val (V.take i) * t = win U k i + (c + b) * BB ^ i) :
    ∀ cc c1 m r b1, cc = c + V.getD i 0 * t → cc = c1 * BB + m → r + m + b = x + b1 * BB → win (O.set (k + i) r) k (i + 1) + val (V.take (i + 1)) * t = win U k (i + 1) + (c1 + b1) * BB ^ (i + 1) := by
  intro cc c1 m r b1 h1 h2 h3
  rw [win_set_succ hO, win_succ hU, take_any, ← hx, Nat.pow_succ, Nat.mul_comm (BB ^ i) BB]
  exact less_arith h (h1 ▸ h2) h3
end Num
set_option maxRecDepth 100000 in
set_option maxHeartbeats 4000000 in
theorem less_c (g k n cu bv ov cv t : Nat) (U V : List Nat) (w : World) (hU : Rw32 w g U) (hUL : Limbs U) (hk : k + (n + 1) ≤ U.length) (hcu : n + 1 ≤ cu) (hkm : U.length ≤ 1099511627776) (hV : At32 w bv ov V) (hVL : Limbs V) (hVn : V.length = n) (hcv : n ≤ cv) (hg : bv ≠ g) (ht : t < BB) :
    Calls Tryz.prog 165 #[.slice (some ⟨g, k, none⟩) (n + 1) cu, .slice (some ⟨bv, ov, none⟩) n cv, .int .u64 (t : Int)] w fun e w' => (∃ (O : List Nat) (z : Nat), e = .returned (.bool (decide (0 < z))) ∧ z ≤ 1 ∧ Rw32 w' g O ∧ O.length = U.length ∧ Limbs O ∧ (∀ j, j < k ∨ k + (n + 1) ≤ j → O.getD j 0 = U.getD j 0) ∧ win O k (n + 1) + val V * t = win U k (n + 1) + z * BB ^ (n + 1)) ∧ Out (· = g) w w' := by
  go_enter Tryz.func165, Tryz.ntmps165
  go_wp2
  go_loopw [7, 8, 13] (fun cx bx x wr => ∃ (i c b : Nat) (O : List Nat), i ≤ n + 1 ∧ x = .int .i64 i ∧ cx = .int .u64 c ∧ bx = .int .u64 b ∧ c < BB ∧ b ≤ 1 ∧ Rw32 wr g O ∧ Hid (O.length = U.length) ∧ Limbs O ∧ Hid (∀ j, j < k ∨ k + i ≤ j → O.getD j 0 = U.getD j 0) ∧ Hid (win O k i + val (V.take i) * t = win U k i + (c + b) * BB ^ i) ∧ Hid (i = n + 1 → c = 0) ∧ Out (· = g) w wr) (fun _ _ x _ => n + 1 - (intOf x).toNat)
  case atStart => exact ⟨0, 0, 0, U, by omega, rfl, rfl, rfl, BB_pos, by omega, hU, Lib.hid rfl, hUL, Lib.hid (fun _ _ => rfl), Lib.hid (by simp [win_zero, val]), Lib.hid (fun h => rfl), Out.refl _ _⟩
  case round =>
    obtain ⟨i, c, b, O, hi, rfl, rfl, rfl, hcB, hb1, hO, hOl, hOL, hO0, hW, hCz, hOut⟩ := hrel
    have hol := hOl.out
    by_cases hlt : i < n + 1
    · have hltz : (i : Int) < (n : Int) + 1 := by omega
      have q0 := hO.cell (k + i) (by omega)
      have qf := hO.frozen (k + i)
      have hx := limb_get hOL (k + i)
      have hxe := hO0.out (k + i) (.inr (Nat.le_refl _))
      have HS := Lib.hid (less_step (O := O) (U := U) (V := V) (k := k) (i := i) (c := c) (b := b) (t := t) (x := O.getD (k + i) 0) (by omega) (by omega) hxe hW.out)
      clear hxe
      by_cases hiv : i < n
      · have d0 := okeep hOut (hV i (by omega)) hg
        have hy := limb_get hVL i
        have hcc : c + V.getD i 0 * t < BB * BB := by
          have h1 : V.getD i 0 * t ≤ (BB - 1) * (BB - 1) := Nat.mul_le_mul (by omega) (by omega)
          have h2 : (BB - 1) * (BB - 1) + (BB - 1) + (BB - 1) + 1 = BB * BB := by unfold BB; rfl
          omega
        generalize hye : V.getD i 0 = y at *
        generalize O.getD (k + i) 0 = x at *
        have e1 := w64 (BB_sq x hx)
        have e2 := w64 (BB_sq y hy)
        have e3 : IntKind.u64.wrap ((y : Int) * (t : Int)) = ((y * t : Nat) : Int) := by rw [← Int.natCast_mul]; exact w64 (by omega)
        have e3' : IntKind.u64.wrap ((c : Int) + ((y * t : Nat) : Int)) = ((c + y * t : Nat) : Int) := by rw [← Int.natCast_add]; exact w64 hcc
        obtain ⟨cc, hce⟩ : ∃ cc, cc = c + y * t := ⟨_, rfl⟩
        rw [← hce] at hcc e3'
        have HE := Lib.hid hce
        clear hce hye
        generalize y * t = yt at e3 e3' 
        obtain ⟨m, hm⟩ : ∃ m, m = cc % BB := ⟨_, rfl⟩
        obtain ⟨c1, h1⟩ : ∃ c1, c1 = cc / BB := ⟨_, rfl⟩
        have HZ := Lib.hid (show i + 1 = n + 1 → c1 = 0 from fun h => by omega)
        have hmB : m < BB := by rw [hm]; exact Nat.mod_lt _ BB_pos
        have h1B : c1 < BB := by rw [h1]; exact Nat.div_lt_of_lt_mul hcc
        have eand : bits .and .u64 (cc : Int) 4294967295 = (m : Int) := by
          rw [show (4294967295 : Int) = ((4294967295 : Nat) : Int) from rfl, bits_and_u64_nat cc 4294967295 (by unfold BB at hcc; omega) (by omega), show (4294967295 : Nat) = 2 ^ 32 - 1 from rfl, Nat.and_two_pow_sub_one_eq_mod, hm]; rfl
        have eshr : (cc : Int) / 4294967296 = (c1 : Int) := by unfold BB at h1; omega
        have HC := Lib.hid (show cc = c1 * BB + m by rw [h1, hm, Nat.mul_comm]; exact (Nat.div_add_mod cc BB).symm)
        clear hm h1
        by_cases hlow : m + b ≤ x
        · have e4 : IntKind.u64.wrap ((x : Int) - (m : Int)) = ((x - m : Nat) : Int) := by rw [show (x : Int) - (m : Int) = ((x - m : Nat) : Int) by omega]; exact w64 (by unfold BB at *; omega)
          have e5 : IntKind.u64.wrap (((x - m : Nat) : Int) - (b : Int)) = ((x - m - b : Nat) : Int) := by rw [show ((x - m : Nat) : Int) - (b : Int) = ((x - m - b : Nat) : Int) by omega]; exact w64 (by unfold BB at *; omega)
          have hr1 : x - m - b < BB := by omega
          have HR := Lib.hid (HS.out cc c1 m (x - m - b) 0 HE.out HC.out (by omega))
          generalize x - m - b = r at *
          generalize x - m = xm at *
          have e6 : (r : Int) / 4294967296 = 0 := by unfold BB at hr1; omega
          have e7 : (r : Int) % 4294967296 = (r : Int) := by unfold BB at hr1; omega
          have b0 : bits .and .u64 0 1 = 0 := by rfl
          have qb := hO.set (k + i) r
          have ql := limbs_set hOL (k := k + i) hr1
          have bs := hOut.set (p := ⟨g, k + i, none⟩) (fun _ => rfl) (.int .u32 (r : Int))
          have hrr := hr1
          clear hol HE hcc
          go_wp2
          refine ⟨⟨i + 1, c1, 0, O.set (k + i) r, by omega, by go_num, rfl, by first | rfl | simp, by omega, by omega, qb, Lib.hid (by simpa using hOl.out), ql, Lib.hid ?_, HR, HZ, bs⟩, by simp [intOf] <;> omega⟩
          intro j hj
          rw [getD_set_far (by omega)]
          exact hO0.out j (by omega)
        · have hD : 18446744073709551616 - (m + b - x) < 18446744073709551616 := by omega
          have hr1 : BB + x - m - b < BB := by omega
          have HR := Lib.hid (HS.out cc c1 m (BB + x - m - b) 1 HE.out HC.out (by omega))
          have e45 : ∃ X : Nat, IntKind.u64.wrap ((x : Int) - (m : Int)) = (X : Int) ∧ IntKind.u64.wrap ((X : Int) - (b : Int)) = ((18446744073709551616 - (m + b - x) : Nat) : Int) := by
            by_cases hxm : m ≤ x
            · refine ⟨x - m, ?_, ?_⟩
              · rw [show (x : Int) - (m : Int) = ((x - m : Nat) : Int) by omega]; exact w64 (by unfold BB at *; omega)
              · simp only [IntKind.wrap, IntKind.bits, IntKind.signed]
                simp
                unfold BB at *
                omega
            · refine ⟨18446744073709551616 - (m - x), ?_, ?_⟩
              · simp only [IntKind.wrap, IntKind.bits, IntKind.signed]
                simp
                unfold BB at *
                omega
              · simp only [IntKind.wrap, IntKind.bits, IntKind.signed]
                simp
                unfold BB at *
                omega
          obtain ⟨xm, e4, e5⟩ := e45
          have e7 : ((18446744073709551616 - (m + b - x) : Nat) : Int) % 4294967296 = ((BB + x - m - b : Nat) : Int) := by unfold BB at *; omega
          have e6 : ((18446744073709551616 - (m + b - x) : Nat) : Int) / 4294967296 = 4294967295 := by unfold BB at *; omega
          generalize 18446744073709551616 - (m + b - x) = D at e5 e6 e7 hD
          generalize BB + x - m - b = r at *
          have b0 : bits .and .u64 4294967295 1 = 1 := by rfl
          have qb := hO.set (k + i) r
          have ql := limbs_set hOL (k := k + i) hr1
          have bs := hOut.set (p := ⟨g, k + i, none⟩) (fun _ => rfl) (.int .u32 (r : Int))
          clear hol HE hcc
          go_wp2
          refine ⟨⟨i + 1, c1, 1, O.set (k + i) r, by omega, by go_num, rfl, by first | rfl | simp, by omega, by omega, qb, Lib.hid (by simpa using hOl.out), ql, Lib.hid ?_, HR, HZ, bs⟩, by simp [intOf] <;> omega⟩
          intro j hj
          rw [getD_set_far (by omega)]
          exact hO0.out j (by omega)
      · obtain rfl : i = n := by omega
        have hy0 : V.getD i 0 = 0 := by simp [hVn]
        rw [hy0] at HS
        have hcc : c < BB * BB := BB_sq c hcB
        generalize O.getD (k + i) 0 = x at *
        have e1 := w64 (BB_sq x hx)
        obtain ⟨cc, hce⟩ : ∃ cc, cc = c := ⟨_, rfl⟩
        have HE := Lib.hid (show cc = c + 0 * t by omega)
        subst hce
        clear hy0
        obtain ⟨m, hm⟩ : ∃ m, m = cc % BB := ⟨_, rfl⟩
        obtain ⟨c1, h1⟩ : ∃ c1, c1 = cc / BB := ⟨_, rfl⟩
        have HZ := Lib.hid (show i + 1 = i + 1 → c1 = 0 from fun _ => by rw [h1]; exact Nat.div_eq_of_lt hcB)
        have hmB : m < BB := by rw [hm]; exact Nat.mod_lt _ BB_pos
        have h1B : c1 < BB := by rw [h1]; exact Nat.div_lt_of_lt_mul hcc
        have eand : bits .and .u64 (cc : Int) 4294967295 = (m : Int) := by
          rw [show (4294967295 : Int) = ((4294967295 : Nat) : Int) from rfl, bits_and_u64_nat cc 4294967295 (by unfold BB at hcc; omega) (by omega), show (4294967295 : Nat) = 2 ^ 32 - 1 from rfl, Nat.and_two_pow_sub_one_eq_mod, hm]; rfl
        have eshr : (cc : Int) / 4294967296 = (c1 : Int) := by unfold BB at h1; omega
        have HC := Lib.hid (show cc = c1 * BB + m by rw [h1, hm, Nat.mul_comm]; exact (Nat.div_add_mod cc BB).symm)
        clear hm h1
        by_cases hlow : m + b ≤ x
        · have e4 : IntKind.u64.wrap ((x : Int) - (m : Int)) = ((x - m : Nat) : Int) := by rw [show (x : Int) - (m : Int) = ((x - m : Nat) : Int) by omega]; exact w64 (by unfold BB at *; omega)
          have e5 : IntKind.u64.wrap (((x - m : Nat) : Int) - (b : Int)) = ((x - m - b : Nat) : Int) := by rw [show ((x - m : Nat) : Int) - (b : Int) = ((x - m - b : Nat) : Int) by omega]; exact w64 (by unfold BB at *; omega)
          have hr1 : x - m - b < BB := by omega
          have HR := Lib.hid (HS.out cc c1 m (x - m - b) 0 HE.out HC.out (by omega))
          generalize x - m - b = r at *
          generalize x - m = xm at *
          have e6 : (r : Int) / 4294967296 = 0 := by unfold BB at hr1; omega
          have e7 : (r : Int) % 4294967296 = (r : Int) := by unfold BB at hr1; omega
          have b0 : bits .and .u64 0 1 = 0 := by rfl
          have qb := hO.set (k + i) r
          have ql := limbs_set hOL (k := k + i) hr1
          have bs := hOut.set (p := ⟨g, k + i, none⟩) (fun _ => rfl) (.int .u32 (r : Int))
          have hrr := hr1
          clear hol HE hcc
          go_wp2
          refine ⟨⟨i + 1, c1, 0, O.set (k + i) r, by omega, by go_num, rfl, by first | rfl | simp, by omega, by omega, qb, Lib.hid (by simpa using hOl.out), ql, Lib.hid ?_, HR, HZ, bs⟩, by simp [intOf] <;> omega⟩
          intro j hj
          rw [getD_set_far (by omega)]
          exact hO0.out j (by omega)
        · have hD : 18446744073709551616 - (m + b - x) < 18446744073709551616 := by omega
          have hr1 : BB + x - m - b < BB := by omega
          have HR := Lib.hid (HS.out cc c1 m (BB + x - m - b) 1 HE.out HC.out (by omega))
          have e45 : ∃ X : Nat, IntKind.u64.wrap ((x : Int) - (m : Int)) = (X : Int) ∧ IntKind.u64.wrap ((X : Int) - (b : Int)) = ((18446744073709551616 - (m + b - x) : Nat) : Int) := by
            by_cases hxm : m ≤ x
            · refine ⟨x - m, ?_, ?_⟩
              · rw [show (x : Int) - (m : Int) = ((x - m : Nat) : Int) by omega]; exact w64 (by unfold BB at *; omega)
              · simp only [IntKind.wrap, IntKind.bits, IntKind.signed]
                simp
                unfold BB at *
                omega
            · refine ⟨18446744073709551616 - (m - x), ?_, ?_⟩
              · simp only [IntKind.wrap, IntKind.bits, IntKind.signed]
                simp
                unfold BB at *
                omega
              · simp only [IntKind.wrap, IntKind.bits, IntKind.signed]
                simp
                unfold BB at *
                omega
          obtain ⟨xm, e4, e5⟩ := e45
          have e7 : ((18446744073709551616 - (m + b - x) : Nat) : Int) % 4294967296 = ((BB + x - m - b : Nat) : Int) := by unfold BB at *; omega
          have e6 : ((18446744073709551616 - (m + b - x) : Nat) : Int) / 4294967296 = 4294967295 := by unfold BB at *; omega
          generalize 18446744073709551616 - (m + b - x) = D at e5 e6 e7 hD
          generalize BB + x - m - b = r at *
          have b0 : bits .and .u64 4294967295 1 = 1 := by rfl
          have qb := hO.set (k + i) r
          have ql := limbs_set hOL (k := k + i) hr1
          have bs := hOut.set (p := ⟨g, k + i, none⟩) (fun _ => rfl) (.int .u32 (r : Int))
          clear hol HE hcc
          go_wp2
          refine ⟨⟨i + 1, c1, 1, O.set (k + i) r, by omega, by go_num, rfl, by first | rfl | simp, by omega, by omega, qb, Lib.hid (by simpa using hOl.out), ql, Lib.hid ?_, HR, HZ, bs⟩, by simp [intOf] <;> omega⟩
          intro j hj
          rw [getD_set_far (by omega)]
          exact hO0.out j (by omega)
    · obtain rfl : i = n + 1 := by omega
      have HW := Lib.hid (show c = 0 ∧ win O k (n + 1) + val V * t = win U k (n + 1) + b * BB ^ (n + 1) by
        have h := hW.out
        rw [List.take_of_length_le (by omega)] at h
        have h0 : c = 0 := hCz.out rfl
        subst h0
        exact ⟨rfl, by simpa using h⟩)
      clear hol
      go_wp2
      go_ret
      exact ⟨⟨O, b, by simp, hb1, hO, hOl.out, hOL, hO0.out, HW.out.2⟩, hOut⟩
end Go.Proofs.YthlphfjmdgcpdaaGreatDoor

/- prog: Check. -/
namespace Go.Proofs.YthlphfjmdgcpdaaGreatDoor
open Go.ChangeShapes Go.WideShapes Go.ChangeAt Go.RowKit
set_option linter.unusedVariables false
set_option linter.unusedSimpArgs false
/-- a list of ints in memory -/
def IntsV (w : World) (a : Option Addr) (cap : Nat) (L : List Int) : Prop := L = [] ∨ ∃ b off, a = some ⟨b, off, none⟩ ∧ L.length ≤ cap ∧ ∀ k, k < L.length → w.cell? ⟨b, off + k, none⟩ = some (.int .i64 (L.getD k 0))
theorem IntsV.keep {w w' : World} {a : Option Addr} {cap : Nat} {L : List Int} (h : IntsV w a cap L) (hb : Below w.heap.size w w') : IntsV w' a cap L := by
  rcases h with h | ⟨b, off, h1, h2, h3⟩
  · exact .inl h
  · exact .inr ⟨b, off, h1, h2, fun k hk => bkeep hb (h3 k hk)⟩
/-- a list of instructions in memory -/
structure InsAt (w : World) (b off : Nat) (i : Ins) : Prop where
  c0 : w.cell? ⟨b, off, none⟩ = some (.int .i64 i.op)
  c1 : w.cell? ⟨b, off + 1, none⟩ = some (.int .i64 i.to)
  c2 : w.cell? ⟨b, off + 2, none⟩ = some (.int .i64 i.a)
  c3 : w.cell? ⟨b, off + 3, none⟩ = some (.int .i64 i.b)
  c4 : w.cell? ⟨b, off + 4, none⟩ = some (.int .i64 i.c)
def InsV (w : World) (a : Option Addr) (cap : Nat) (L : List Ins) : Prop := L = [] ∨ ∃ b off, a = some ⟨b, off, none⟩ ∧ L.length ≤ cap ∧ ∀ k, k < L.length → InsAt w b (off + k * 5) (L.getD k default)
theorem InsAt.keep {w w' : World} {b off : Nat} {i : Ins} (h : InsAt w b off i) (hb : Below w.heap.size w w') : InsAt w' b off i := ⟨bkeep hb h.c0, bkeep hb h.c1, bkeep hb h.c2, bkeep hb h.c3, bkeep hb h.c4⟩
theorem InsV.keep {w w' : World} {a : Option Addr} {cap : Nat} {L : List Ins} (h : InsV w a cap L) (hb : Below w.heap.size w w') : InsV w' a cap L := by
  rcases h with h | ⟨b, off, h1, h2, h3⟩
  · exact .inl h
  · exact .inr ⟨b, off, h1, h2, fun k hk => (h3 k hk).keep hb⟩
/-- a slice's address: in a block of the type t, from B on -/
def FromA (B : Nat) (t : TypeId) (w : World) (a : Option Addr) : Prop := ∀ p, a = some p → B ≤ p.block ∧ typOf w p.block = some t
theorem FromA.nil (B : Nat) (t : TypeId) (w : World) : FromA B t w none := fun _ e => by cases e
theorem FromA.keep {B : Nat} {t : TypeId} {w w' : World} {a : Option Addr} (h : FromA B t w a) (hb : Below w.heap.size w w') : FromA B t w' a := fun p e => ⟨(h p e).1, typ_keep (h p e).2 hb⟩
theorem FromA.mono {B C : Nat} {t : TypeId} {w : World} {a : Option Addr} (h : FromA B t w a) (hc : C ≤ B) : FromA C t w a := fun p e => ⟨Nat.le_trans hc (h p e).1, (h p e).2⟩
theorem FromA.set {B : Nat} {t : TypeId} {w : World} {a : Option Addr} (h : FromA B t w a) (q : Addr) (v : Value) : FromA B t (w.setCell q v) a := fun p e => ⟨(h p e).1, by rw [typ_set]; exact (h p e).2⟩
theorem IntsV.far {w : World} {a : Option Addr} {cap : Nat} {L : List Int} (h : IntsV w a cap L) {q : Addr} (hq : ∀ p, a = some p → p.block ≠ q.block) (v : Value) : IntsV (w.setCell q v) a cap L := by
  rcases h with h | ⟨b, off, h1, h2, h3⟩
  · exact .inl h
  · exact .inr ⟨b, off, h1, h2, fun k hk => cell_far (h3 k hk) (fun e => hq _ h1 (by rw [e])) v⟩
theorem InsV.far {w : World} {a : Option Addr} {cap : Nat} {L : List Ins} (h : InsV w a cap L) {q : Addr} (hq : ∀ p, a = some p → p.block ≠ q.block) (v : Value) : InsV (w.setCell q v) a cap L := by
  rcases h with h | ⟨b, off, h1, h2, h3⟩
  · exact .inl h
  · refine .inr ⟨b, off, h1, h2, fun k hk => ?_⟩
    have hn : ∀ o, q ≠ (⟨b, o, Option.none⟩ : Addr) := fun o e => hq _ h1 (by rw [e])
    obtain ⟨c0, c1, c2, c3, c4⟩ := h3 k hk
    exact ⟨cell_far c0 (hn _) v, cell_far c1 (hn _) v, cell_far c2 (hn _) v, cell_far c3 (hn _) v, cell_far c4 (hn _) v⟩
/-- what Check asks of a program -/
structure ProgOk (ins regs : Int) (code : List Ins) (outs : List Int) : Prop where
  i1 : 1 ≤ ins
  i2 : ins ≤ regs
  r1 : regs ≤ 128
  c1 : code.length ≤ 16384
  o1 : 1 ≤ outs.length
  o2 : outs.length ≤ 128
  os : ∀ k, k < outs.length → 0 ≤ outs.getD k 0 ∧ outs.getD k 0 < regs
  cs : ∀ k, k < code.length → mayB (code.getD k default).op (code.getD k default).to (code.getD k default).a (code.getD k default).b (code.getD k default).c regs = true

end Go.Proofs.YthlphfjmdgcpdaaGreatDoor

/- slices.Clone at []int. -/
namespace Go.Proofs.YthlphfjmdgcpdaaGreatDoor
open Go.ChangeShapes Go.WideShapes Go.ChangeAt Go.RowKit
set_option linter.unusedVariables false
set_option linter.unusedSimpArgs false
end Go.Proofs.YthlphfjmdgcpdaaGreatDoor

