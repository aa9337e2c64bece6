/- Texts of this seat, laid together: TxtR, TxtL, MwH, MwI. Each opens with its own remark, which says what it proves, and under which conditions. -/
import Derived.Test.YtbmaffijncapiaaGreatDoorD12
import Derived.Test.YtbmaffijncapiaaGreatDoorD16
import Derived.Test.YtbmaffijncapiaaGreatDoorD03
import Derived.Laws.IdiomStrings
import Derived.Laws.BytesArg
import Derived.Deep.LoopGhost
import Derived.Test.YtbmaffijncapiaaGreatDoorD10
import Derived.Test.YtbmaffijncapiaaGreatDoorD08
import Derived.Deep.DeepFit
import Derived.Test.YtbmaffijncapiaaGreatDoorD15
import Derived.Test.YtbmaffijncapiaaGreatDoorD23
set_option linter.unusedVariables false
set_option linter.unusedSimpArgs false
/- Rows of bytes of the call's own; the reference's Text. -/
namespace Go.Proofs.YtbmaffijncapiaaGreatDoor
open Num
open Go.ChangeShapes Go.WideShapes Go.ChangeAt Go.RowKit
set_option linter.unusedVariables false
set_option linter.unusedSimpArgs false
theorem info8 : (Tryz.prog.info? 5).map (fun i => (i.zero, i.size, i.bytes)) = some (some (.int .u8 0), 1, 1) := by kernel_rfl
theorem el8 : Elt Tryz.prog 173 5 1 1 := Elt.mk' Tryz.underlying173 info8 rfl (by decide) (by decide)
def Own8 (w0 wr : World) (v : Value) (L : List UInt8) : Prop := OwnE 5 1 w0 wr v L.length (Lib.byteCells L)
theorem Own8.below {w0 wr w' : World} {v : Value} {L : List UInt8} (h : Own8 w0 wr v L) (hb : Below wr.heap.size wr w') : Own8 w0 w' v L := OwnE.below h hb
theorem Own8.nil {w0 wr : World} (hb : Below w0.heap.size w0 wr) : Own8 w0 wr (.slice none 0 0) [] := OwnE.nil _ _ hb
theorem bcells_app (l m : List UInt8) : Lib.byteCells (l ++ m) = Lib.byteCells l ++ Lib.byteCells m := by simp [Lib.byteCells]
theorem bcells_one (l : List UInt8) : ∀ v ∈ Lib.byteCells l, v.oneCell' = true := by
  intro v hv; simp only [Lib.byteCells, List.mem_map] at hv; obtain ⟨x, _, rfl⟩ := hv; rfl
theorem bcells_get (l : List UInt8) (k : Nat) (h : k < l.length) : (Lib.byteCells l)[k]? = some (.int .u8 ((l.getD k 0).toNat : Nat)) := by simp [Lib.byteCells, h]
theorem Own8.ex {w0 wr : World} {v : Value} {L : List UInt8} (h : Own8 w0 wr v L) : (v = .slice none 0 0 ∧ L = []) ∨ ∃ g cap, v = .slice (some ⟨g, 0, none⟩) L.length cap ∧ w0.heap.size ≤ g ∧ L.length ≤ cap := by
  obtain ⟨⟨h0, h⟩, _⟩ := h
  rcases h with ⟨rfl, h1⟩ | ⟨g, cap, cur, rfl, hg, _, hc, _⟩
  · exact .inl ⟨rfl, List.length_eq_zero_iff.1 h1⟩
  · exact .inr ⟨g, cap, rfl, hg, hc⟩
theorem Own8.shape {w0 wr : World} {v : Value} {L : List UInt8} (h : Own8 w0 wr v L) : ∃ a c, v = .slice a L.length c := by
  rcases h.ex with ⟨rfl, rfl⟩ | ⟨g, cap, rfl, _⟩
  · exact ⟨none, 0, rfl⟩
  · exact ⟨_, _, rfl⟩
theorem Own8.cell {w0 wr : World} {g cap : Nat} {L : List UInt8} (h : Own8 w0 wr (.slice (some ⟨g, 0, none⟩) L.length cap) L) (k : Nat) (hk : k < L.length) : wr.cell? ⟨g, k, none⟩ = some (.int .u8 ((L.getD k 0).toNat : Nat)) := by
  rw [World.ownsRow.cellAt h.1 k (by omega), bcells_get L k hk]
theorem Own8.frozen {w0 wr : World} {g cap : Nat} {L : List UInt8} (h : Own8 w0 wr (.slice (some ⟨g, 0, none⟩) L.length cap) L) (k : Nat) : wr.frozen? ⟨g, k, none⟩ = false := World.ownsRow.frozenAt h.1 k
theorem Own8.set {w0 wr : World} {g cap : Nat} {L : List UInt8} (h : Own8 w0 wr (.slice (some ⟨g, 0, none⟩) L.length cap) L) (k : Nat) (x : UInt8) (hg : w0.heap.size ≤ g) : Own8 w0 (wr.setCell ⟨g, k, none⟩ (.int .u8 (x.toNat : Nat))) (.slice (some ⟨g, 0, none⟩) L.length cap) (L.set k x) := by
  obtain ⟨⟨hl, h1⟩, hB⟩ := h
  rcases h1 with ⟨h2, _⟩ | ⟨g', cap', cur, h2, hg', hh, hc, hm, hs, ht⟩
  · cases h2
  · cases h2
    refine ⟨⟨by simp [Lib.byteCells], .inr ⟨g, cap, cur.setIfInBounds k (.int .u8 (x.toNat : Nat)), by simp, hg', ?_, by simpa using hc, hm, by simpa using hs, ?_⟩⟩, bset hB (by exact hg) _⟩
    · unfold World.setCell
      simp only [Array.getElem?_modify, if_true]
      rw [hh]; rfl
    · rw [Array.toList_setIfInBounds, List.length_set, List.take_set, ht]
      simp [Lib.byteCells, List.map_set]
theorem Own8.str {w0 wr : World} {a : Option Addr} {c : Nat} {L : List UInt8} (h : Own8 w0 wr (.slice a L.length c) L) : (convert 173 9 (.slice a L.length c)).run Tryz.prog wr = .ok (.string ⟨L.toArray⟩) wr := by
  rcases h.ex with ⟨h1, h2⟩ | ⟨g, cap, h1, _⟩
  · subst h2
    cases h1
    exact run_convert_bytes_nil wr 173 5 Tryz.underlying173 Tryz.underlying5 0 0 9 Tryz.underlying9
  · cases h1
    refine run_convert_bytes_back wr 173 9 5 ⟨g, 0, none⟩ c L Tryz.underlying173 Tryz.underlying5 Tryz.underlying9 fun j hj => ?_
    have := h.cell j hj
    unfold Addr.add
    split
    · subst_vars; simpa [hj] using this
    · simpa [hj] using this
theorem app8 {ops : Array Oper} {rest : List Oper} {o : Oper} {a : Act} {Q : Exit → Act → World → Prop} {w0 wr : World} {v : Value} {L X : List UInt8} {t : TypeId} (hgd : o.guard = none) {s x : Operand}
    (ho : o.op = .call { callee := .builtin .append, args := #[s, x], argTypes := #[173, 173] }) (hO : Own8 w0 wr v L) (hs : a.eval s = v)
    {c : Nat} (hx : a.eval x = .slice (some ⟨wr.heap.size, 0, none⟩) X.length c) (hn : L.length + X.length ≤ 1099511627776)
    (h : ∀ v' w', Own8 w0 w' v' (L ++ X) → Lim wr w' → Out (fun k => v.ownBlock = some k) wr w' → wpList Tryz.prog ops Q rest (a.put o.dst v') w') : wpList Tryz.prog ops Q (o :: rest) a (wr.alloc (.cells (Lib.byteCells X).toArray t)) := by
  obtain ⟨i, z, hi, hz, hsize, hby, hzs⟩ := el8.info
  refine wpList_append_own _ hgd s x 173 ho w0.heap.size 5 i z 1 1 el8.ht hi hz hsize hby hzs el8.pos v L.length (Lib.byteCells L) hs (hO.1.alloc _) ⟨wr.heap.size, 0, none⟩ X.length c (Lib.byteCells X) hx (by rw [Lib.byteCells_length, Nat.mul_one]) (cells_new wr _ t) (bcells_one X) (by unfold maxLen; omega) (by omega) (by have := hO.2.size; simp; omega) ?_
  intro v' w' hown hg _
  have hl : Lim wr w' := ((Lim.refl wr).alloc _).grown hg fun g hg' ht => (by decide : 5 ≠ 177) (by
    rw [typ_keep (own_typ hO hg') (bal (Below.refl _ _) _)] at ht
    exact Option.some.inj ht)
  exact h v' w' ⟨by rw [bcells_app, List.length_append]; exact hown, below_append (wr := wr) (bal hO.2 _) (hO.1.alloc _) hg⟩ hl (((Out.refl _ wr).alloc _).grown hg fun k hk _ => hk)
namespace Num
def dig (d : Nat) : UInt8 := UInt8.ofNat (48 + d)
theorem dig_nat {d : Nat} (h : d < 10) : (dig d).toNat = 48 + d := by
  unfold dig; rw [UInt8.toNat_ofNat']; omega
theorem asc_eq (l : List Nat) : asc l = (l.map dig).reverse := by unfold asc; rw [← List.map_reverse]; rfl
def turned (T : List UInt8) (i : Nat) : List UInt8 := (List.range T.length).map fun j => if j < i ∨ T.length - 1 - j < i then T.getD (T.length - 1 - j) 0 else T.getD j 0
theorem turned_len (T : List UInt8) (i : Nat) : (turned T i).length = T.length := by simp [turned]
theorem turned_get (T : List UInt8) (i j : Nat) (h : j < T.length) : (turned T i).getD j 0 = if j < i ∨ T.length - 1 - j < i then T.getD (T.length - 1 - j) 0 else T.getD j 0 := by
  simp [turned, h]
theorem turned_zero (T : List UInt8) : turned T 0 = T := by
  apply List.ext_getElem
  · simp [turned]
  · intro j h1 h2
    simp [turned, h2]
theorem turned_step {T : List UInt8} {i : Nat} (h : i < T.length / 2) : ((turned T i).set i ((turned T i).getD (T.length - 1 - i) 0)).set (T.length - 1 - i) ((turned T i).getD i 0) = turned T (i + 1) := by
  have e1 : (turned T i).getD i 0 = T.getD i 0 := by rw [turned_get T i i (by omega), if_neg (by omega)]
  have e2 : (turned T i).getD (T.length - 1 - i) 0 = T.getD (T.length - 1 - i) 0 := by rw [turned_get T i _ (by omega), if_neg (by omega)]
  rw [e1, e2]
  apply List.ext_getElem
  · simp [turned]
  · intro j h1 h2
    have hj : j < T.length := by simpa [turned] using h2
    rw [List.getElem_set, List.getElem_set]
    simp only [turned, List.getElem_map, List.getElem_range]
    by_cases h3 : T.length - 1 - i = j
    · rw [if_pos h3, if_pos (by omega)]; congr 1; omega
    · rw [if_neg h3]
      by_cases h4 : i = j
      · rw [if_pos h4, if_pos (by omega), h4]
      · rw [if_neg h4]
        by_cases h5 : j < i ∨ T.length - 1 - j < i
        · rw [if_pos h5, if_pos (by omega)]
        · rw [if_neg h5, if_neg (by omega)]
theorem turned_end (T : List UInt8) {i : Nat} (h : T.length / 2 ≤ i) : turned T i = T.reverse := by
  apply List.ext_getElem
  · simp [turned]
  · intro j h1 h2
    have hj : j < T.length := by simpa [turned] using h1
    simp only [turned, List.getElem_map, List.getElem_range, List.getElem_reverse]
    by_cases h5 : j < i ∨ T.length - 1 - j < i
    · rw [if_pos h5]; simp [show T.length - 1 - j < T.length by omega]
    · rw [if_neg h5]
      have e : T.length - 1 - j = j := by omega
      simp only [e]; simp [hj]
theorem intTxt_zero : intTxt 0 = [48] := by simp [intTxt, natTxt]
theorem intTxt_sg {neg : Bool} {V : Nat} (hV : 0 < V) : intTxt (sg neg V) = ((lowD V).map dig ++ (if neg then [45] else [])).reverse := by
  unfold intTxt natTxt
  rw [sg_abs, if_neg (by omega : ¬ V = 0), asc_eq]
  cases neg with
  | true => rw [if_pos (by simp [sg]; omega)]; simp
  | false => rw [if_neg (by simp [sg])]; simp
end Num


set_option maxRecDepth 100000 in
set_option maxHeartbeats 8000000 in
theorem rtext_c (vx : Value) (x : Int) (k : Nat) (w : World) (hx : IsRef w vx x) (bx : Bd k x) (hk : k ≤ 1073741824) :
    Calls Tryz.prog 29 #[vx] w fun e w' => e = .returned (.string ⟨(intTxt x).toArray⟩) ∧ Below w.heap.size w w' := by
  obtain ⟨n1, a1, c1, l1, rfl, u1, q1, g1, s1, rfl⟩ := hx
  have k1 : l1.length ≤ 67108865 := by
    by_cases h0 : l1 = []
    · subst h0; simp
    · have h1 := NumR.nrm_val_pos g1 h0
      rw [NumR.BB_pow] at h1
      have h2 : 16 * (l1.length - 1) < k := (Nat.pow_lt_pow_iff_right (a := 2) (by omega)).1 (Nat.lt_of_le_of_lt h1 (rsg_bd bx))
      omega
  have HX := Lib.hid (And.intro s1 bx)
  have HPL := Lib.hid (show (lowD (NumR.val l1)).length ≤ 1073741824 from Nat.le_trans (lowD_len k _ (rsg_bd bx)) hk)
  clear bx s1
  unfold iv
  have hB := Below.refl w.heap.size w
  go_enter Tryz.func29, Tryz.ntmps29
  go_wp2
  refine wp_name fun w0 hW0 => ?_
  have x0 : w0.cell? ⟨w.heap.size, 0, none⟩ = some (.bool n1) := by rw [hW0]; exact (by first | assumption | exact cell_new (by with_reducible first | rfl | (simp; done) | (simp; omega)) rfl | (repeat (first | assumption | exact cell_new (by with_reducible first | rfl | (simp; done) | (simp; omega)) rfl | refine cell_alloc ?_ _ | refine cell_drew ?_ | refine cell_drewN ?_ _ | refine cell_far ?_ (by simp) _ | (refine cell_far ?_ (by simp <;> omega) _))) | simp [go_sem, *])
  have zx0 := cell_lt x0
  have x1 : w0.cell? ⟨w.heap.size, 1, none⟩ = some (.slice a1 l1.length c1) := by rw [hW0]; exact (by first | assumption | exact cell_new (by with_reducible first | rfl | (simp; done) | (simp; omega)) rfl | (repeat (first | assumption | exact cell_new (by with_reducible first | rfl | (simp; done) | (simp; omega)) rfl | refine cell_alloc ?_ _ | refine cell_drew ?_ | refine cell_drewN ?_ _ | refine cell_far ?_ (by simp) _ | (refine cell_far ?_ (by simp <;> omega) _))) | simp [go_sem, *])
  have hB : Below w.heap.size w w0 := by rw [hW0]; repeat (first|exact bzR _ _|exact hB|refine bzD ?_|refine bzN ?_|refine bzS ?_|refine bzA ?_)
  have hz : w.heap.size ≤ w0.heap.size := hB.size
  clear hW0
  have hu0 := u1.keep hB
  go_loopg [3, 4] (NumR.val l1) (fun gk d v wr => ∃ (P : List Nat) (ad : Option Addr) (cd : Nat) (L : List Nat), v = .slice ad L.length cd ∧ U32 wr ad cd L ∧ NumR.Limbs L ∧ Nrm L ∧ L.length ≤ 67108865 ∧ gk = NumR.val L ∧ Own8 w0 wr d (P.map dig) ∧ lowD (NumR.val l1) = P ++ lowD (NumR.val L))
  case atStart => exact ⟨[], a1, c1, l1, rfl, hu0, q1, g1, k1, rfl, Own8.nil (Below.refl _ _), rfl⟩
  case round =>
    obtain ⟨P, ad, cd, L, rfl, hu, hl, hn, hlm, hgk, hO, hP⟩ := hrel
    have HP := Lib.hid (And.intro hgk hP)
    clear hgk hP
    have hPl : P.length ≤ 1073741824 := by have h1 := congrArg List.length HP.out.2; have h2 := HPL.out; rw [h1, List.length_append] at h2; omega
    have hPm : (P.map dig).length ≤ 1073741824 := by simpa using hPl
    by_cases hL : 0 < L.length
    · have hLz : (0 : Int) < (L.length : Int) := by omega
      have hv0 : 0 < NumR.val L := by
        have h1 := NumR.nrm_val_pos hn (List.length_pos_iff.1 hL)
        have : 0 < NumR.BB ^ (L.length - 1) := Nat.pow_pos NumR.BB_pos
        omega
      have dc := fun (g : Nat) (W : World) (h : Below wr.heap.size wr W) (hg : g = W.heap.size) => rdivide_c ad (some ⟨g, 0, none⟩) cd 1 L [10] (W.alloc (.cells (cel [10]).toArray 177)) (hu.keep (bal h _)) ((blk_at hg).u32 (fun x hx => by simp at hx; subst hx; unfold BB; omega) (by simp [maxLen])) hl (fun x hx => by simp at hx; subst hx; unfold NumR.BB; omega) hn (fun _ => by simp) (by simp [NumR.val]) (by omega) (by simp)
      rw [show NumR.val [10] = 10 by simp [NumR.val]] at dc
      simp only [List.length_cons, List.length_nil, Nat.zero_add] at dc
      go_wp2_with fail
      refine (dc _ _ (Below.refl _ _) rfl).mono ?_
      rintro e w2 ⟨⟨u, v, rfl, hq, hr⟩, hb2⟩
      have hO2 := hO.below (bthen (bal (Below.refl _ _) _) hb2)
      clear dc hO hu
      obtain ⟨aq, cq, Lq, rfl, hqu, hql, hqn, hqv⟩ := hq
      obtain ⟨ar, cr, Lr, rfl, hru, hrl, hrn, hrv⟩ := hr
      have hLqm : Lq.length ≤ 67108865 := by
        apply Nat.le_trans _ hlm
        apply Nat.le_of_not_lt; intro h
        have := NumR.val_lt_of_len hl hqn h
        omega
      have HV := Lib.hid (And.intro hqv hrv)
      have HN := Lib.hid (show lowD (NumR.val L) = NumR.val L % 10 :: lowD (NumR.val L / 10) from lowD_pos hv0)
      have HLT := Lib.hid (show NumR.val L / 10 < NumR.val L by omega)
      clear hqv
      by_cases hc : NumR.val L % 10 = 0
      · obtain rfl : Lr = [] := (NumR.val_nil_iff hrn).1 (by rw [hrv]; exact hc)
        have HC := Lib.hid hc
        clear hc hrv
        go_wp2_with (at_builtin; refine app8 (X := [48]) rfl rfl hO2 rfl rfl ?_ ?_; (simp; omega); intro v' w3 hO3 hlim3 _)
        go_roundg (NumR.val L / 10)
        case measure => rw [HP.out.1]; exact HLT.out
        case rel => exact ⟨P ++ [0], aq, cq, Lq, rfl, hqu.lim hlim3, hql, hqn, hLqm, HV.out.1.symm, by simpa [show dig 0 = 48 from rfl] using hO3, by rw [HV.out.1, HP.out.2, HN.out, HC.out]; simp⟩
      · obtain ⟨c, rfl⟩ : ∃ c, Lr = [c] := by
          apply List.length_eq_one_iff.1
          have h1 : Lr ≠ [] := by intro e; subst e; apply hc; rw [← hrv]; rfl
          have h2 := NumR.nrm_val_pos hrn h1
          have h3 := List.length_pos_iff.2 h1
          have h4 : Lr.length - 1 = 0 := by
            apply Nat.eq_zero_of_not_pos; intro h
            have h5 : NumR.BB ^ 1 ≤ NumR.BB ^ (Lr.length - 1) := Nat.pow_le_pow_right NumR.BB_pos h
            have h6 : NumR.val L % 10 < 10 := Nat.mod_lt _ (by omega)
            unfold NumR.BB at *
            omega
          omega
        have hce : c = NumR.val L % 10 := by rw [← hrv]; simp [NumR.val]
        rcases hru.2.2.2 with h0 | ⟨br, or', rfl, hcr⟩
        · cases h0
        have c0 := hcr 0 (by simp)
        simp only [List.getD_cons_zero, Nat.add_zero] at c0
        have hc10' : c < 10 := by omega
        have HC := Lib.hid hce
        clear hc hce hrv hcr hru
        -- the digit c is put on
        have hc10 : c < 10 := by omega
        obtain ⟨bb, hbb⟩ : ∃ bb, bb = dig (c) := ⟨_, rfl⟩
        have hb1 : (48 : Int) + ((c : Nat) : Int) = (bb.toNat : Int) := by rw [hbb, dig_nat hc10]; omega
        have hb2 : (bb.toNat : Int) % 256 = (bb.toNat : Int) := by have := bb.toNat_lt; omega
        have hb3 : IntKind.u32.wrap (bb.toNat : Int) = (bb.toNat : Int) := w32 (by have := bb.toNat_lt; unfold BB; omega)
        have HBB := Lib.hid hbb
        clear hbb
        go_wp2_with (at_builtin; refine app8 (X := [bb]) rfl rfl hO2 rfl rfl ?_ ?_; (simp; omega); intro v' w3 hO3 hlim3 _)
        go_roundg (NumR.val L / 10)
        case measure => rw [HP.out.1]; exact HLT.out
        case rel => exact ⟨P ++ [c], aq, cq, Lq, rfl, hqu.lim hlim3, hql, hqn, hLqm, HV.out.1.symm, by rw [HBB.out] at hO3; simpa using hO3, by rw [HV.out.1, HP.out.2, HN.out, HC.out]; simp⟩
    · obtain rfl : L = [] := List.length_eq_zero_iff.1 (by omega)
      have hPN := HP.out.2
      rw [show NumR.val [] = 0 from rfl, lowD_zero, List.append_nil] at hPN
      have x0w := x0
      have hB2 := bthen hB hO.2
      have y0 := bkeep hO.2 x0
      by_cases hP0 : P = []
      · subst hP0
        have hN0 : NumR.val l1 = 0 := by
          apply Nat.eq_zero_of_not_pos; intro h
          exact lowD_ne h hPN
        have HE := Lib.hid (show intTxt (sg n1 (NumR.val l1)) = [48] by rw [hN0]; cases n1 <;> simp [sg, intTxt_zero])
        obtain ⟨a9, c9, rfl⟩ := hO.shape
        clear hPN hN0 hu hO
        simp only [List.map_nil, List.length_nil]
        go_wp2
        go_ret
        exact ⟨by rw [HE.out]; rfl, hB2⟩
      · have hN0 : 0 < NumR.val l1 := by
          apply Nat.pos_of_ne_zero; intro h
          rw [h, lowD_zero] at hPN
          exact hP0 hPN.symm
        have HE := Lib.hid (show intTxt (sg n1 (NumR.val l1)) = (P.map dig ++ (if n1 then [45] else [])).reverse by rw [intTxt_sg hN0, hPN])
        have hPz : (((P.map dig).length : Int) == 0) = false := by rw [beq_eq_false_iff_ne]; simp; exact hP0
        obtain ⟨a8, c8, rfl⟩ := hO.shape
        clear hPN hN0 hu hP0
        cases n1 with
        | true =>
          simp only [if_true] at HE
          generalize P.map dig = S at *
          go_wp2_with (at_builtin; refine app8 (X := [45]) rfl rfl hO rfl rfl ?_ ?_; (simp; omega); intro v' w3 hO3 _ _; (obtain ⟨a8, c8, rfl⟩ := hO3.shape); (have hTm : (S ++ [45]).length ≤ 1073741825 := by simp; omega); clear hO; generalize S ++ [45] = T at *)
          go_loopw [8] (fun x wi => ∃ i : Nat, i ≤ T.length / 2 ∧ x = .int .i64 i ∧ Own8 w0 wi (.slice a8 T.length c8) (turned T i)) (fun x _ => T.length / 2 - (intOf x).toNat)
          case atStart => exact ⟨0, Nat.zero_le _, rfl, by rw [turned_zero]; exact hO3⟩
          case round =>
            rename World => wi
            obtain ⟨i, hi, rfl, hOi⟩ := hrel
            have hlen := turned_len T i
            by_cases hlt : i < T.length / 2
            · have hltz : (i : Int) < (T.length : Int) / 2 := by omega
              have hltz2 : (i : Int) < (T.length : Int).tdiv 2 := by rw [Int.tdiv_eq_ediv_of_nonneg (by omega)]; exact hltz
              have hOi' := hOi
              rw [← hlen] at hOi'
              rcases hOi'.ex with ⟨h0, hT⟩ | ⟨g, cap, hv, hg, hcap⟩
              · exfalso; rw [hT] at hlen; simp at hlen; omega
              cases hv
              obtain ⟨j, hj⟩ : ∃ j, j = T.length - 1 - i := ⟨_, rfl⟩
              have q0 := hOi'.cell i (by omega)
              have q1 := hOi'.cell j (by omega)
              have qf := hOi'.frozen i
              have qg := hOi'.frozen j
              have HS := Lib.hid (turned_step hlt)
              rw [← hj] at HS
              have hO4 := hOi'.set i ((turned T i).getD j 0) hg
              have hO5 := (show Own8 w0 _ (.slice (some ⟨g, 0, none⟩) ((turned T i).set i ((turned T i).getD j 0)).length c8) _ by rw [List.length_set]; exact hO4).set j ((turned T i).getD i 0) hg
              rw [HS.out, List.length_set, hlen] at hO5
              have HO5 := Lib.hid hO5
              have g1 : (T.length : Int) - 1 - (i : Int) = (j : Int) := by omega
              have g2 : IntKind.i64.wrap ((T.length : Int) - 1) = (T.length : Int) - 1 := by rw [IntKind.wrap_i64]; omega
              have g3 : IntKind.i64.wrap ((T.length : Int) - 1 - (i : Int)) = (j : Int) := by rw [IntKind.wrap_i64]; omega
              have hji : i ≠ j := by omega
              have hij : j ≠ i := by omega
              have hiT : (i : Int) < (T.length : Int) := by omega
              have hjT : (j : Int) < (T.length : Int) := by omega
              clear hO4 hO5 hOi hOi' hlen hj
              generalize (turned T i).getD j 0 = bj at *
              generalize (turned T i).getD i 0 = bi at *
              go_wp2
              go_region
              all_goals
                go_wp2
                refine ⟨⟨i + 1, by omega, by go_num, ?_⟩, by simp [intOf] <;> omega⟩
                exact ⟨HO5.out.1, HO5.out.2.drew⟩
            · have HO := Lib.hid (show Own8 w0 wi (.slice a8 T.length c8) T.reverse by rw [← turned_end T (i := i) (Nat.le_of_not_lt hlt)]; exact hOi)
              have hcv := (show Own8 w0 wi (.slice a8 T.reverse.length c8) T.reverse by rw [List.length_reverse]; exact HO.out).str
              rw [List.length_reverse, ← HE.out] at hcv
              have hB9 := bthen hB HO.out.2
              have hltz : ¬ (i : Int) < (T.length : Int) / 2 := by omega
              have hltz2 : ¬ (i : Int) < (T.length : Int).tdiv 2 := by rw [Int.tdiv_eq_ediv_of_nonneg (by omega)]; exact hltz
              clear hOi hlen
              go_wp2
              go_ret
              exact ⟨rfl, hB9⟩
        | false =>
          simp only [Bool.false_eq_true, if_false, List.append_nil] at HE
          generalize P.map dig = T at *
          have hTm : T.length ≤ 1073741825 := by omega
          have hO3 := hO
          clear hO
          go_wp2
          go_loopw [8] (fun x wi => ∃ i : Nat, i ≤ T.length / 2 ∧ x = .int .i64 i ∧ Own8 w0 wi (.slice a8 T.length c8) (turned T i)) (fun x _ => T.length / 2 - (intOf x).toNat)
          case atStart => exact ⟨0, Nat.zero_le _, rfl, by rw [turned_zero]; exact hO3⟩
          case round =>
            rename World => wi
            obtain ⟨i, hi, rfl, hOi⟩ := hrel
            have hlen := turned_len T i
            by_cases hlt : i < T.length / 2
            · have hltz : (i : Int) < (T.length : Int) / 2 := by omega
              have hltz2 : (i : Int) < (T.length : Int).tdiv 2 := by rw [Int.tdiv_eq_ediv_of_nonneg (by omega)]; exact hltz
              have hOi' := hOi
              rw [← hlen] at hOi'
              rcases hOi'.ex with ⟨h0, hT⟩ | ⟨g, cap, hv, hg, hcap⟩
              · exfalso; rw [hT] at hlen; simp at hlen; omega
              cases hv
              obtain ⟨j, hj⟩ : ∃ j, j = T.length - 1 - i := ⟨_, rfl⟩
              have q0 := hOi'.cell i (by omega)
              have q1 := hOi'.cell j (by omega)
              have qf := hOi'.frozen i
              have qg := hOi'.frozen j
              have HS := Lib.hid (turned_step hlt)
              rw [← hj] at HS
              have hO4 := hOi'.set i ((turned T i).getD j 0) hg
              have hO5 := (show Own8 w0 _ (.slice (some ⟨g, 0, none⟩) ((turned T i).set i ((turned T i).getD j 0)).length c8) _ by rw [List.length_set]; exact hO4).set j ((turned T i).getD i 0) hg
              rw [HS.out, List.length_set, hlen] at hO5
              have HO5 := Lib.hid hO5
              have g1 : (T.length : Int) - 1 - (i : Int) = (j : Int) := by omega
              have g2 : IntKind.i64.wrap ((T.length : Int) - 1) = (T.length : Int) - 1 := by rw [IntKind.wrap_i64]; omega
              have g3 : IntKind.i64.wrap ((T.length : Int) - 1 - (i : Int)) = (j : Int) := by rw [IntKind.wrap_i64]; omega
              have hji : i ≠ j := by omega
              have hij : j ≠ i := by omega
              have hiT : (i : Int) < (T.length : Int) := by omega
              have hjT : (j : Int) < (T.length : Int) := by omega
              clear hO4 hO5 hOi hOi' hlen hj
              generalize (turned T i).getD j 0 = bj at *
              generalize (turned T i).getD i 0 = bi at *
              go_wp2
              go_region
              all_goals
                go_wp2
                refine ⟨⟨i + 1, by omega, by go_num, ?_⟩, by simp [intOf] <;> omega⟩
                exact ⟨HO5.out.1, HO5.out.2.drew⟩
            · have HO := Lib.hid (show Own8 w0 wi (.slice a8 T.length c8) T.reverse by rw [← turned_end T (i := i) (Nat.le_of_not_lt hlt)]; exact hOi)
              have hcv := (show Own8 w0 wi (.slice a8 T.reverse.length c8) T.reverse by rw [List.length_reverse]; exact HO.out).str
              rw [List.length_reverse, ← HE.out] at hcv
              have hB9 := bthen hB HO.out.2
              have hltz : ¬ (i : Int) < (T.length : Int) / 2 := by omega
              have hltz2 : ¬ (i : Int) < (T.length : Int).tdiv 2 := by rw [Int.tdiv_eq_ediv_of_nonneg (by omega)]; exact hltz
              clear hOi hlen
              go_wp2
              go_ret
              exact ⟨rfl, hB9⟩
end Go.Proofs.YtbmaffijncapiaaGreatDoor

/- limb: Text. -/
namespace Go.Proofs.YtbmaffijncapiaaGreatDoor
open Num
open Go.ChangeShapes Go.WideShapes Go.ChangeAt Go.RowKit
set_option linter.unusedVariables false
set_option linter.unusedSimpArgs false
theorem app32l {ops : Array Oper} {rest : List Oper} {o : Oper} {a : Act} {Q : Exit → Act → World → Prop} {w0 wr : World} {v : Value} {L X : List Nat} {t : TypeId} (hgd : o.guard = none) {s x : Operand}
    (ho : o.op = .call { callee := .builtin .append, args := #[s, x], argTypes := #[48, 48] }) (hO : Own32 w0 wr v L) (hs : a.eval s = v)
    {c : Nat} (hx : a.eval x = .slice (some ⟨wr.heap.size, 0, none⟩) X.length c) (hn : L.length + X.length ≤ 1099511627776)
    (h : ∀ v' w', Own32 w0 w' v' (L ++ X) → (∀ (ad : Option Addr) (cd : Nat) (M : List Nat), U32 wr ad cd M → (∀ g f, ad = some ⟨g, f, none⟩ → v.ownBlock ≠ some g) → U32 w' ad cd M) → wpList Tryz.prog ops Q rest (a.put o.dst v') w') : wpList Tryz.prog ops Q (o :: rest) a (wr.alloc (.cells (cel X).toArray t)) := by
  obtain ⟨i, z, hi, hz, hsize, hby, hzs⟩ := el32.info
  refine wpList_append_own _ hgd s x 48 ho w0.heap.size 177 i z 1 4 el32.ht hi hz hsize hby hzs el32.pos v L.length (cel L) hs (hO.1.alloc _) ⟨wr.heap.size, 0, none⟩ X.length c (cel X) hx (by rw [cel_len, Nat.mul_one]) (cells_new wr _ t) (cel_one X) (by unfold maxLen; omega) (by omega) (by have := hO.2.size; simp; omega) ?_
  intro v' w' hown hg _
  have ho : Out (fun k => v.ownBlock = some k) wr w' := ((Out.refl _ wr).alloc _).grown hg fun k hk _ => hk
  exact h v' w' ⟨by rw [cel_app, List.length_append]; exact hown, below_append (wr := wr) (bal hO.2 _) (hO.1.alloc _) hg⟩ fun ad cd M hu hne => hu.okeep ho fun q f e hq => hne q f e hq
theorem Bld.keep {B b : Nat} {l : List UInt8} {w w' : World} (h : Bld B b l w) (hb : Below w.heap.size w w') : Bld B b l w' := by
  have key : ∀ p, Lib.BuilderAt 286 5 B b p (Lib.byteCells l) w → Lib.BuilderAt 286 5 B b p (Lib.byteCells l) w' := by
    rintro p ⟨h1, v, h2, h3, h4⟩
    exact ⟨h1, v, (hb.block b (Array.getElem?_eq_some_iff.1 h2).1).trans h2, own_below (w0 := w) h3 hb, h4⟩
  rcases h with h | h
  · exact .inl (key _ h)
  · exact .inr (key _ h)
theorem Bld.new {w : World} {b : Nat} (hb : b = w.heap.size) : Bld b b [] (w.alloc (.cells #[.pointer none, .slice none 0 0] 286)) := by
  subst hb
  exact .inl ⟨Nat.le_refl _, .slice none 0 0, (MapKept.heap_alloc w _).1, World.ownsRow_nil _ _ _ _, by simp [Value.ownBlock]⟩
theorem pcs_len (k : Nat) : ∀ n, n < 2 ^ k → (pcs n).length ≤ k := by
  induction k with
  | zero => intro n h; obtain rfl : n = 0 := by simpa using h
            rw [pcs_zero]; simp
  | succ k ih =>
    intro n h
    by_cases h0 : 0 < n
    · rw [pcs_pos h0]
      have := ih (n / 1000000000) (by rw [Nat.pow_succ] at h; omega)
      simp; exact this
    · obtain rfl : n = 0 := by omega
      rw [pcs_zero]; simp
theorem pcs_bound {l : List Nat} (hl : Limbs l) (h1 : l.length ≤ 67108865) {P Q : List Nat} (h : pcs (val l) = P ++ Q) : P.length ≤ 2147483680 := by
  have h2 := val_lt hl
  rw [BB_pow] at h2
  have h3 := pcs_len _ _ h2
  rw [h, List.length_append] at h3
  omega
def Z9 (j m p : Nat) : List UInt8 := List.replicate j 0 ++ asc (padD m p)
theorem Z9_len (j m p : Nat) : (Z9 j m p).length = j + m := by simp [Z9, asc_len, padD_len]
theorem rep_set (j : Nat) (T : List UInt8) (d : UInt8) : (List.replicate (j + 1) 0 ++ T).set j d = List.replicate j 0 ++ d :: T := by
  induction j with
  | zero => rfl
  | succ j ih =>
    rw [List.replicate_succ, List.cons_append, List.set_cons_succ, ih]; rfl
theorem Z9_step (j m p : Nat) : (Z9 (j + 1) m p).set j (dig (p / 10 ^ m % 10)) = Z9 j (m + 1) p := by
  unfold Z9
  rw [rep_set, padD_snoc, asc_append]; rfl
theorem Z9_end (p : Nat) : Z9 0 9 p = asc (padD 9 p) := rfl
theorem lowP_top {P : List Nat} {k : Nat} (h : k + 1 = P.length) : lowP (P.drop k) = lowD (P.getD k 0) := by
  have e : P.drop k = [P.getD k 0] := by
    rw [List.drop_eq_getElem_cons (by omega), List.drop_eq_nil_of_le (by omega)]
    simp [List.getElem?_eq_getElem (show k < P.length by omega)]
  rw [e]; rfl
theorem lowP_low {P : List Nat} {k : Nat} (h : k + 1 < P.length) : lowP (P.drop k) = padD 9 (P.getD k 0) ++ lowP (P.drop (k + 1)) := by
  rw [List.drop_eq_getElem_cons (by omega), lowP_cons (by intro h0; have := congrArg List.length h0; simp at this; omega)]
  simp [List.getElem?_eq_getElem (show k < P.length by omega)]
theorem lowP_len : ∀ L : List Nat, (∀ x ∈ L, x < 1000000000) → (lowP L).length ≤ 9 * L.length
  | [], _ => by simp [lowP]
  | [p], h => by
    have := (padD_low 9 p (h p (by simp))).2
    simpa [lowP] using this
  | p :: q :: L, h => by
    have := lowP_len (q :: L) (fun x hx => h x (List.mem_cons_of_mem _ hx))
    rw [lowP_cons (by simp), List.length_append, padD_len]
    simp only [List.length_cons] at this ⊢
    omega
theorem zeroArr9 : ∀ w, (zeroValue 300).run Tryz.prog w = .ok (.agg #[.int .u8 0, .int .u8 0, .int .u8 0, .int .u8 0, .int .u8 0, .int .u8 0, .int .u8 0, .int .u8 0, .int .u8 0]) w := fun w => by kernel_rfl
structure Arr9 (w : World) (g : Nat) (Z : List UInt8) : Prop where
  cell : ∀ j, j < 9 → w.cell? ⟨g, j, none⟩ = some (.int .u8 ((Z.getD j 0).toNat : Nat))
  free : ∀ j, w.frozen? ⟨g, j, none⟩ = false
theorem Arr9.new (w : World) (p : Nat) : Arr9 (w.alloc (.cells #[.int .u8 0, .int .u8 0, .int .u8 0, .int .u8 0, .int .u8 0, .int .u8 0, .int .u8 0, .int .u8 0, .int .u8 0] 300)) w.heap.size (Z9 9 0 p) := by
  have hz : ∀ j, (Z9 9 0 p).getD j 0 = 0 := fun j => by
    simp [Z9, asc, padD]
    exact match j with | 0 => rfl | 1 => rfl | 2 => rfl | 3 => rfl | 4 => rfl | 5 => rfl | 6 => rfl | 7 => rfl | 8 => rfl | n + 9 => rfl
  refine ⟨fun j hj => ?_, fun j => by rw [World.frozen?_alloc_at (hn := by simp)]⟩
  rw [hz]
  refine cell_new rfl ?_
  have : j = 0 ∨ j = 1 ∨ j = 2 ∨ j = 3 ∨ j = 4 ∨ j = 5 ∨ j = 6 ∨ j = 7 ∨ j = 8 := by omega
  rcases this with rfl | rfl | rfl | rfl | rfl | rfl | rfl | rfl | rfl <;> rfl
theorem Arr9.set {w : World} {g : Nat} {Z : List UInt8} (h : Arr9 w g Z) (hZ : Z.length = 9) {k : Nat} (hk : k < 9) (x : UInt8) : Arr9 (w.setCell ⟨g, k, none⟩ (.int .u8 (x.toNat : Nat))) g (Z.set k x) := by
  refine ⟨fun j hj => ?_, fun j => by rw [World.frozen?_setCell]; exact h.free j⟩
  by_cases e : k = j
  · subst e
    rw [cell_here (h.cell k hk)]
    simp [hZ, hk]
  · rw [cell_far (h.cell j hj) (by first | (simp; done) | (simp; exact e))]
    simp [List.getElem?_set_ne e]

set_option maxRecDepth 100000 in
set_option maxHeartbeats 8000000 in
theorem limbText_c (a : Option Addr) (ca : Nat) (l : List Nat) (w : World) (ha : U32 w a ca l) (h1 : l.length ≤ 67108865) :
    Calls Tryz.prog 202 #[.slice a l.length ca] w fun e w' => e = .returned (.string ⟨(natTxt (val l)).toArray⟩) ∧ Below w.heap.size w w' := by
  have nc := limbNorm_c a ca l w ha (by omega)
  have HTV := Lib.hid (val_trim l)
  have hTN := trim_nrm l
  have hTl := Nat.le_trans (trim_len l) h1
  have HPL := Lib.hid (show ∀ P Q, pcs (val l) = P ++ Q → P.length ≤ 2147483680 from fun P Q h => pcs_bound ha.2.2.1 h1 h)
  generalize trimL l = T at *
  go_enter Tryz.func202, Tryz.ntmps202
  go_wp2_with fail
  refine nc.mono ?_
  rintro e w0 ⟨⟨a0, rfl, hu0⟩, hb0⟩
  clear nc
  go_wp2
  go_loopg [3, 4] (val T) (fun gk d v wr => ∃ (P : List Nat) (ad : Option Addr) (cd : Nat) (L : List Nat), v = .slice ad L.length cd ∧ U32 wr ad cd L ∧ Nrm L ∧ L.length ≤ 67108865 ∧ gk = val L ∧ Own32 w0 wr d P ∧ pcs (val l) = P ++ pcs (val L))
  case atStart => exact ⟨[], a0, _, T, rfl, hu0, hTN, hTl, rfl, Own32.nil (Below.refl _ _), by rw [HTV.out]; rfl⟩
  case round =>
    obtain ⟨P, ad, cd, L, rfl, hu, hn, hlm, hgk, hO, hP⟩ := hrel
    have HP := Lib.hid (And.intro hgk hP)
    clear hgk hP
    have hPl : P.length ≤ 2147483680 := HPL.out _ _ HP.out.2
    by_cases hL : 0 < L.length
    · have hLz : (0 : Int) < (L.length : Int) := by omega
      have hv0 : 0 < val L := by
        have h1 := nrm_val_pos hn (List.length_pos_iff.1 hL)
        have : 0 < BB ^ (L.length - 1) := Nat.pow_pos BB_pos
        omega
      have dc := fun (W : World) (h : Below wr.heap.size wr W) => divSmallF_c ad cd L 1000000000 W (hu.keep h) (by omega) (by omega) (by unfold BB; omega)
      have HN := Lib.hid (show pcs (val L) = val L % 1000000000 :: pcs (val L / 1000000000) from pcs_pos hv0)
      have HLT := Lib.hid (show val L / 1000000000 < val L by omega)
      have hr9 : val L % 1000000000 < 1000000000 := Nat.mod_lt _ (by omega)
      have HQL := Lib.hid (show ∀ Q : List Nat, Nrm Q → val Q = val L / 1000000000 → Q.length ≤ 67108865 from fun Q hQ hv => by
        refine Nat.le_trans (nrm_len_le (k := L.length) hQ ?_) hlm
        have := val_lt hu.2.2.1
        omega)
      go_wp2_with fail
      refine (dc _ (Below.refl _ _)).mono ?_
      rintro e w2 ⟨⟨u, rfl, hq, hqf⟩, hb2⟩
      have hO2 := hO.below hb2
      have HLT2 := Lib.hid hO.1.lt
      have HQF := Lib.hid hqf
      clear dc hO hu hqf
      obtain ⟨aq, nq, Lq, rfl, rfl, hqu, hqn, hqv⟩ := hq
      have hLqm := HQL.out Lq hqn hqv
      have HV := Lib.hid hqv
      clear hqv
      obtain ⟨r, hr⟩ : ∃ r, r = val L % 1000000000 := ⟨_, rfl⟩
      rw [← hr] at hr9
      have HR := Lib.hid hr
      rw [← hr]
      clear hr
      go_wp2_with (at_builtin; refine app32l (X := [r]) rfl rfl hO2 rfl rfl ?_ ?_; (simp; omega); intro v' w3 hO3 hlim3)
      go_roundg (val L / 1000000000)
      case measure => rw [HP.out.1]; exact HLT.out
      case rel => exact ⟨P ++ [r], aq, _, Lq, rfl, hlim3 aq _ Lq hqu (fun g f e h => by have h1 := (HLT2.out g h).2; have h2 := HQF.out g f _ _ (by rw [e]); omega), hqn, hLqm, HV.out.symm, hO3, by rw [HV.out, HP.out.2, HN.out, HR.out]; simp⟩
    · obtain rfl : L = [] := List.length_eq_zero_iff.1 (by omega)
      have hPN := HP.out.2
      rw [show val [] = 0 from rfl, pcs_zero, List.append_nil] at hPN
      have hB2 := bthen hb0 hO.2
      by_cases hP0 : P = []
      · subst hP0
        have hN0 : val l = 0 := by
          apply Nat.eq_zero_of_not_pos; intro h
          exact pcs_ne h hPN
        have HE := Lib.hid (show natTxt (val l) = [48] by rw [hN0]; rfl)
        rcases hO.ex with ⟨a9, c9, rfl⟩
        clear hPN hN0 hu hO
        simp only [List.length_nil]
        go_wp2
        go_ret
        exact ⟨by rw [HE.out]; rfl, hB2⟩
      · have hN0 : 0 < val l := by
          apply Nat.pos_of_ne_zero; intro h
          rw [h, pcs_zero] at hPN
          exact hP0 hPN.symm
        have HPN := Lib.hid hPN
        have HN0 := Lib.hid hN0
        have hPz : ((P.length : Int) == 0) = false := by rw [beq_eq_false_iff_ne]; have := List.length_pos_iff.2 hP0; omega
        obtain ⟨a9, c9, rfl, hPU⟩ := hO.u32 (L := P) (fun x hx => by
          have := pcs_lt (val l) x (by rw [HPN.out]; exact hx)
          unfold BB; omega)
        rcases hPU.2.2.2 with h0 | ⟨bp, op, rfl, hPc⟩
        · exact absurd h0 hP0
        clear hPN hN0 hu hO hPU
        have HPL9 := Lib.hid (show ∀ x ∈ P, x < 1000000000 from fun x hx => pcs_lt (val l) x (by rw [HPN.out]; exact hx))
        have HLST := Lib.hid (show ∀ h : P ≠ [], 0 < P.getLast h from by rw [← HPN.out]; exact pcs_last (val l))
        have HE := Lib.hid (show natTxt (val l) = asc (lowP P) by rw [← HPN.out, lowP_pcs]; unfold natTxt; rw [if_neg (by have := HN0.out; omega)])
        have hza := zeroArr9
        have hbp := cell_lt (hPc 0 (List.length_pos_iff.2 hP0))
        simp only [List.length_nil]
        go_wp2
        go_loopw [9] (fun x wx => ∃ k : Nat, k ≤ P.length ∧ x = .int .i64 ((k : Int) - 1) ∧ Bld wr.heap.size wr.heap.size (asc (lowP (P.drop k))) wx ∧ Below wr.heap.size wr wx ∧ wr.heap.size < wx.heap.size) (fun x _ => (intOf x + 1).toNat)
        case atStart => exact ⟨P.length, Nat.le_refl _, rfl, by rw [List.drop_length]; exact Bld.new rfl, bal (Below.refl _ _) _, by simp⟩
        case round =>
          rename World => wx
          obtain ⟨k, hk, rfl, hBd, hBx, hsx⟩ := hrel
          cases k with
          | zero =>
            clear hza
            rw [List.drop_zero] at hBd
            go_wp2_with fail
            refine (bstring_c wr.heap.size wr.heap.size _ _ hBd hBx.size).mono ?_
            rintro e w6 ⟨rfl, hb6⟩
            go_wp2
            go_ret
            exact ⟨by rw [HE.out]; rfl, bthen hB2 (hBx.trans hb6)⟩
          | succ k =>
            have hp9 : P.getD k 0 < 1000000000 := HPL9.out _ (by rw [List.getD_eq_getElem?_getD, List.getElem?_eq_getElem (by omega)]; exact List.getElem_mem _)
            have HTOP := Lib.hid (show k + 1 = P.length → 0 < P.getD k 0 from fun h => by
              have h2 := HLST.out hP0
              rw [List.getLast_eq_getElem] at h2
              rw [List.getD_eq_getElem?_getD, List.getElem?_eq_getElem (by omega)]
              have e : P.length - 1 = k := by omega
              simp only [e] at h2
              exact h2)
            have HTP := Lib.hid (show k + 1 = P.length → lowP (P.drop k) = lowD (P.getD k 0) from fun h => lowP_top h)
            have HLO := Lib.hid (show k + 1 < P.length → lowP (P.drop k) = padD 9 (P.getD k 0) ++ lowP (P.drop (k + 1)) from fun h => lowP_low h)
            have q0 := bkeep hBx (hPc k (by omega))
            generalize P.getD k 0 = p at *
            have hkl : (k : Int) < (P.length : Int) := by omega
            have q1 := cell_alloc q0 (.cells #[.int .u8 0, .int .u8 0, .int .u8 0, .int .u8 0, .int .u8 0, .int .u8 0, .int .u8 0, .int .u8 0, .int .u8 0] 300)
            rw [show (((k + 1 : Nat) : Int) - 1) = (k : Int) from by omega]
            go_wp2
            go_loopw [11, 12] (fun xv kv wi => ∃ j m : Nat, j + m = 9 ∧ kv = .int .i64 ((j : Int) - 1) ∧ xv = .int .u32 ((p / 10 ^ m : Nat) : Int) ∧ Arr9 wi wx.heap.size (Z9 j m p) ∧ Below wx.heap.size wx wi ∧ wx.heap.size < wi.heap.size) (fun _ kv _ => (intOf kv + 1).toNat)
            case atStart => exact ⟨9, 0, rfl, rfl, by simp, Arr9.new wx p, bal (Below.refl _ _) _, by simp⟩
            case round =>
              rename World => wi
              obtain ⟨j, m, hjm, rfl, rfl, hA, hBi, hsi⟩ := hrel
              cases j with
              | zero =>
                obtain rfl : m = 9 := by omega
                have hBy : Bld wr.heap.size wr.heap.size (asc (lowP (P.drop (k + 1)))) wi := hBd.keep hBi
                have hsl : (convert 173 9 (.slice (some ⟨wx.heap.size, 0, none⟩) 9 9)).run Tryz.prog wi = .ok (.string ⟨(asc (padD 9 p)).toArray⟩) wi := by
                  have hl9 : (asc (padD 9 p)).length = 9 := by rw [asc_len, padD_len]
                  have := run_convert_bytes_back (P := Tryz.prog) wi 173 9 5 ⟨wx.heap.size, 0, none⟩ 9 (asc (padD 9 p)) Tryz.underlying173 Tryz.underlying5 Tryz.underlying9 (fun j hj => by
                    have h := hA.cell j (by omega)
                    rw [Z9_end] at h
                    unfold Addr.add
                    split
                    · subst_vars; simpa [hj] using h
                    · simpa [hj] using h)
                  rwa [hl9] at this
                have hBw := bthen hBx hBi
                clear hA hBi hBd hza q0 q1
                have hsw := hBw.size
                have hll : (asc (lowP (P.drop (k + 1)))).length ≤ 19327353120 := by
                  have h1 := lowP_len (P.drop (k + 1)) (fun x hx => HPL9.out x (List.mem_of_mem_drop hx))
                  rw [asc_len]
                  have h2 : (P.drop (k + 1)).length ≤ P.length := by rw [List.length_drop]; omega
                  omega
                by_cases hk1 : k + 1 = P.length
                · have ht : ((k : Int) == (P.length : Int) - 1) = true := by rw [beq_iff_eq]; omega
                  have HEQ := Lib.hid (show asc (lowP (P.drop (k + 1))) ++ asc (lowD p) = asc (lowP (P.drop k)) by
                    rw [HTP.out hk1, List.drop_eq_nil_of_le (by omega)]; rfl)
                  have htr := fun W => trimLeft_c ⟨(asc (padD 9 p)).toArray⟩ W
                  rw [show Lib.trimLeftB (ByteArray.mk (asc (padD 9 p)).toArray).data.toList 48 = asc (lowD p) from asc_pad_top (HTOP.out hk1) hp9] at htr
                  have hld : (asc (lowD p)).length ≤ 9 := by rw [asc_len]; exact (padD_low 9 p hp9).2
                  clear hk1
                  generalize asc (padD 9 p) = tx at *
                  generalize asc (lowD p) = ty at *
                  generalize asc (lowP (P.drop (k + 1))) = lx at *
                  go_wp2_with fail
                  refine (htr _).mono ?_
                  rintro e w5 ⟨rfl, rfl⟩
                  clear htr
                  go_wp2_with fail
                  refine (bwrite_c wr.heap.size wr.heap.size lx ⟨ty.toArray⟩ _ hBy (by show lx.length + ty.length ≤ _; omega) hsw).mono ?_
                  rintro e w6 ⟨rfl, hBz, hb6⟩
                  go_wp2
                  exact ⟨⟨k, by omega, by go_num, by rw [← HEQ.out]; exact hBz, hBw.trans hb6, by have := hb6.size; omega⟩, by simp [intOf]⟩
                · have ht : ((k : Int) == (P.length : Int) - 1) = false := by rw [beq_eq_false_iff_ne]; omega
                  have HEQ := Lib.hid (show asc (lowP (P.drop (k + 1))) ++ asc (padD 9 p) = asc (lowP (P.drop k)) by
                    rw [HLO.out (by omega), asc_append])
                  have hld : (asc (padD 9 p)).length ≤ 9 := by rw [asc_len, padD_len]; omega
                  clear hk1
                  generalize asc (padD 9 p) = ty at *
                  generalize asc (lowP (P.drop (k + 1))) = lx at *
                  go_wp2_with fail
                  refine (bwrite_c wr.heap.size wr.heap.size lx ⟨ty.toArray⟩ _ hBy (by show lx.length + ty.length ≤ _; omega) hsw).mono ?_
                  rintro e w6 ⟨rfl, hBz, hb6⟩
                  go_wp2
                  exact ⟨⟨k, by omega, by go_num, by rw [← HEQ.out]; exact hBz, hBw.trans hb6, by have := hb6.size; omega⟩, by simp [intOf]⟩
              | succ j =>
                have HS := Lib.hid (Z9_step j m p)
                have HQ := Lib.hid (show p / 10 ^ (m + 1) = p / 10 ^ m / 10 by rw [Nat.pow_succ, Nat.div_div_eq_div_mul])
                have hZl := Z9_len (j + 1) m p
                rw [show (((j + 1 : Nat) : Int) - 1) = (j : Int) from by omega]
                have hj9 : (j : Int) < 9 := by omega
                have qc := hA.cell j (by omega)
                have qf := hA.free j
                have hAn := hA.set (k := j) (by rw [hZl, hjm]) (by omega) (dig (p / 10 ^ m % 10))
                rw [HS.out] at hAn
                have hq9 : p / 10 ^ m < 4294967296 := Nat.lt_of_le_of_lt (Nat.div_le_self _ _) (by omega)
                generalize p / 10 ^ m = q at *
                have hc10 : q % 10 < 10 := by omega
                obtain ⟨bb, hbb⟩ : ∃ bb, bb = dig (q % 10) := ⟨_, rfl⟩
                rw [← hbb] at hAn
                have e3 : (q : Int).tmod 10 = ((q % 10 : Nat) : Int) := rfl
                have e4 : (q : Int).tdiv 10 = ((q / 10 : Nat) : Int) := rfl
                have e5 : ((q / 10 : Nat) : Int) % 4294967296 = ((q / 10 : Nat) : Int) := by omega
                have hb1 : (48 : Int) + ((q % 10 : Nat) : Int) = (bb.toNat : Int) := by rw [hbb, dig_nat hc10]; omega
                have hb2 : (bb.toNat : Int) % 256 = (bb.toNat : Int) := by have := bb.toNat_lt; omega
                have hb3 : IntKind.u32.wrap (bb.toNat : Int) = (bb.toNat : Int) := w32 (by have := bb.toNat_lt; unfold BB; omega)
                have HBB := Lib.hid hbb
                have HAN := Lib.hid hAn
                clear hbb hAn hZl
                generalize q % 10 = c10 at *
                generalize q / 10 = q10 at *
                go_wp2
                refine ⟨⟨j, m + 1, by omega, by go_num, by rw [HQ.out], HAN.out, bset hBi (by simp) _, by simpa using hsi⟩, by simp [intOf]⟩
end Go.Proofs.YtbmaffijncapiaaGreatDoor

/- row: Cmp, Same; matrix: Same. -/
namespace Go.Proofs.YtbmaffijncapiaaGreatDoor
open Num
open Go.ChangeShapes Go.WideShapes Go.ChangeAt Go.RowKit
set_option linter.unusedVariables false
set_option linter.unusedSimpArgs false
attribute [local go_sem ↓] Go.wp_at_zero Go.wp_at_succ
end Go.Proofs.YtbmaffijncapiaaGreatDoor

/- matrix: Same. -/
namespace Go.Proofs.YtbmaffijncapiaaGreatDoor
open Num
open Go.ChangeShapes Go.WideShapes Go.ChangeAt Go.RowKit
set_option linter.unusedVariables false
set_option linter.unusedSimpArgs false
attribute [local go_sem ↓] Go.wp_at_zero Go.wp_at_succ
end Go.Proofs.YtbmaffijncapiaaGreatDoor

