/- scheme's laws: works answers true. -/
import Derived.Test.YtkejdmdldhlkgaaGreatDoorP28
import Derived.Test.YtkejdmdldhlkgaaGreatDoorP08
import Derived.Test.YtkejdmdldhlkgaaGreatDoorP22
import Derived.Test.YtkejdmdldhlkgaaGreatDoorP26
set_option linter.unusedVariables false
set_option linter.unusedSimpArgs false
namespace Go.Proofs.YtkejdmdldhlkgaaGreatDoor
open Pt
open Num
open Go.ChangeShapes Go.WideShapes Go.ChangeAt Go.RowKit
set_option linter.unusedVariables false
set_option linter.unusedSimpArgs false
attribute [local go_sem ↓] Go.wp_at_zero Go.wp_at_succ
/-- the example -/
def wL : List Int := [0, 1, 1, 1, -1, 1]
theorem nat3 {i : Nat} (h : i < 3) : i = 0 ∨ i = 1 ∨ i = 2 := by omega
theorem wL_sch : Sch 2 2 3 (evF wL) := by
  refine ⟨by unfold Cnt; decide, fun i hi => ?_, by decide, fun i hi => ?_, fun j hj i hi => ?_⟩
  · rcases nat3 hi with rfl | rfl | rfl <;> decide
  · rcases nat3 hi with rfl | rfl | rfl <;> decide
  · rcases nat3 hj with rfl | rfl | rfl
    · omega
    · obtain rfl : i = 0 := by omega
      decide
    · rcases (show i = 0 ∨ i = 1 by omega) with rfl | rfl <;> decide
theorem wL_full : pwG 3 3 (evF wL) = [[1, 0, 0], [1, 1, 1], [1, -1, 1]] := by kernel_rfl
theorem wL_inv : invG [[1, 0, 0], [1, 1, 1], [1, -1, 1]] = [[2, 0, 0], [0, 1, -1], [-2, 1, 1]] := by kernel_rfl
theorem wL_invD : invD [[1, 0, 0], [1, 1, 1], [1, -1, 1]] = 2 := by kernel_rfl
theorem wL_txt1 : matTxt [[1, 0, 0], [1, 1, 1], [1, -1, 1]] = [91, 91, 49, 32, 48, 32, 48, 93, 32, 91, 49, 32, 49, 32, 49, 93, 32, 91, 49, 32, 45, 49, 32, 49, 93, 93] := by kernel_rfl
theorem wL_txt2 : matTxt [[2, 0, 0], [0, 1, -1], [-2, 1, 1]] = [91, 91, 50, 32, 48, 32, 48, 93, 32, 91, 48, 32, 49, 32, 45, 49, 93, 32, 91, 45, 50, 32, 49, 32, 49, 93, 93] := by kernel_rfl
theorem wL_txt3 : intTxt 2 = [50] := by kernel_rfl
theorem wL_r1 : ∀ i, i < ([[1, 0, 0], [1, 1, 1], [1, -1, 1]] : Grid).length → (Lib.join ((([[1, 0, 0], [1, 1, 1], [1, -1, 1]] : Grid).getD i []).map intTxt) [32]).length ≤ 140737488355328 := by
  intro i hi
  have e0 : (Lib.join (([1, 0, 0] : List Int).map intTxt) [32]).length = 5 := by kernel_rfl
  have e1 : (Lib.join (([1, 1, 1] : List Int).map intTxt) [32]).length = 5 := by kernel_rfl
  have e2 : (Lib.join (([1, -1, 1] : List Int).map intTxt) [32]).length = 6 := by kernel_rfl
  rcases nat3 hi with rfl | rfl | rfl
  · exact Nat.le_trans (Nat.le_of_eq e0) (by decide)
  · exact Nat.le_trans (Nat.le_of_eq e1) (by decide)
  · exact Nat.le_trans (Nat.le_of_eq e2) (by decide)
theorem wL_m1 : (Lib.join (([[1, 0, 0], [1, 1, 1], [1, -1, 1]] : Grid).map rowTxt) [32]).length ≤ 140737488355328 := by
  have e : (Lib.join (([[1, 0, 0], [1, 1, 1], [1, -1, 1]] : Grid).map rowTxt) [32]).length = 24 := by kernel_rfl
  exact Nat.le_trans (Nat.le_of_eq e) (by decide)
theorem wL_r2 : ∀ i, i < ([[2, 0, 0], [0, 1, -1], [-2, 1, 1]] : Grid).length → (Lib.join ((([[2, 0, 0], [0, 1, -1], [-2, 1, 1]] : Grid).getD i []).map intTxt) [32]).length ≤ 140737488355328 := by
  intro i hi
  have e0 : (Lib.join (([2, 0, 0] : List Int).map intTxt) [32]).length = 5 := by kernel_rfl
  have e1 : (Lib.join (([0, 1, -1] : List Int).map intTxt) [32]).length = 6 := by kernel_rfl
  have e2 : (Lib.join (([-2, 1, 1] : List Int).map intTxt) [32]).length = 6 := by kernel_rfl
  rcases nat3 hi with rfl | rfl | rfl
  · exact Nat.le_trans (Nat.le_of_eq e0) (by decide)
  · exact Nat.le_trans (Nat.le_of_eq e1) (by decide)
  · exact Nat.le_trans (Nat.le_of_eq e2) (by decide)
theorem wL_m2 : (Lib.join (([[2, 0, 0], [0, 1, -1], [-2, 1, 1]] : Grid).map rowTxt) [32]).length ≤ 140737488355328 := by
  have e : (Lib.join (([[2, 0, 0], [0, 1, -1], [-2, 1, 1]] : Grid).map rowTxt) [32]).length = 25 := by kernel_rfl
  exact Nat.le_trans (Nat.le_of_eq e) (by decide)
theorem bdM_of3 {k : Nat} {g : Grid} (h : ∀ r ∈ g, ∀ x ∈ r, x.natAbs < 2 ^ k) : BdM k g := by
  intro i j
  unfold gat
  by_cases hi : i < g.length
  · have e : g.getD i [] = g[i] := by simp [hi]
    rw [e]
    by_cases hj : j < g[i].length
    · have e2 : g[i].getD j 0 = g[i][j] := by simp [hj]
      rw [e2]; exact h _ (List.getElem_mem _) _ (List.getElem_mem _)
    · rw [List.getD_eq_getElem?_getD, List.getElem?_eq_none (by omega)]; exact bd_zero
  · have e : g.getD i [] = [] := by rw [List.getD_eq_getElem?_getD, List.getElem?_eq_none (by omega)]; rfl
    rw [e]; exact bd_zero
theorem wL_b1 : BdM 8 [[1, 0, 0], [1, 1, 1], [1, -1, 1]] := bdM_of3 (by decide)
theorem wL_b2 : BdM 8 [[2, 0, 0], [0, 1, -1], [-2, 1, 1]] := bdM_of3 (by decide)
theorem NewSPost.yes {k1 k2 : Int} {n : Nat} {f : Nat → Int × Int} {w w' : World} {e : Ending} (h : NewSPost k1 k2 n f w e w') (hs : Sch k1 k2 n f) : (∃ b, e = .returned (.tuple #[.pointer (some ⟨b, 0, none⟩), .int .i64 0]) ∧ SchAt w' b k1 k2 n f) ∧ Below w.heap.size w w' := by
  obtain ⟨⟨no, h1, h2, -⟩ | ⟨-, h⟩, hB⟩ := h
  · exact absurd (h1.unique (.inr (.inr ⟨hs, rfl⟩))) h2
  · exact ⟨h, hB⟩
set_option maxRecDepth 100000 in
set_option maxHeartbeats 8000000 in
theorem works7_c (w : World) : Calls Tryz.prog 7 #[] w fun e w' => e = .returned (.bool true) ∧ Below w.heap.size w w' := by
  have hB := Below.refl w.heap.size w
  go_enter Tryz.func7, Tryz.ntmps7
  go_wp2_with fail
  (with_reducible refine (points7_c w.heap.size 0 6 6 3 wL _ rfl (by decide) ?_).mono ?_)
  · intro k hk
    rcases (show k = 0 ∨ k = 1 ∨ k = 2 ∨ k = 3 ∨ k = 4 ∨ k = 5 by omega) with rfl | rfl | rfl | rfl | rfl | rfl <;> exact cell_new rfl rfl
  rintro e w1 ⟨⟨pa, pc, rfl, hp⟩, hb1⟩
  have hB1 : Below w.heap.size w w1 := bthen (by repeat (first | exact Below.refl _ _ | exact hB | refine Below.drew ?_ | refine below_drewN ?_ _ | refine bset ?_ (by simp <;> omega) _ | refine bal ?_ _)) hb1
  have HP := Lib.hid hp
  have NC := Lib.hid (fun W (q : Below w1.heap.size w1 W) => newS_c 2 2 pa 3 pc (evF wL) W (HP.out.keep q) (by decide))
  have hBw := Below.refl w1.heap.size w1
  clear hp hb1 hB
  go_wp2_with fail
  (with_reducible refine (NC.out _ ?_).mono ?_); (repeat (first | exact Below.refl _ _ | exact hBw | refine Below.drew ?_ | refine below_drewN ?_ _ | refine bset ?_ (by simp <;> omega) _ | refine bal ?_ _))
  intro e w2 hN
  obtain ⟨⟨b, rfl, hs⟩, hb2⟩ := hN.yes wL_sch
  have hB2 := bthen hB1 (bthen (show Below w1.heap.size w1 _ by repeat (first | exact Below.refl _ _ | exact hBw | refine Below.drew ?_ | refine below_drewN ?_ _ | refine bset ?_ (by simp <;> omega) _ | refine bal ?_ _)) hb2)
  have HS := Lib.hid hs
  clear hN hb2 hs HP NC hBw hB1
  have ZC := Lib.hid (fun W (q : Below w2.heap.size w2 W) => sizeS_c b 2 2 3 (evF wL) W (HS.out.keep q))
  have IC := Lib.hid (fun W (q : Below w2.heap.size w2 W) => invS_c b 2 2 3 (evF wL) W (HS.out.keep q) wL_sch)
  have FC := Lib.hid (fun W (q : Below w2.heap.size w2 W) => fullS_c b 2 2 3 (evF wL) W (HS.out.keep q) wL_sch.all (by decide) (by decide))
  rw [wL_full] at IC FC
  rw [wL_inv, wL_invD] at IC
  have hBw := Below.refl w2.heap.size w2
  clear HS
  go_wp2_with fail
  (with_reducible refine (ZC.out _ ?_).mono ?_); (repeat (first | exact Below.refl _ _ | exact hBw | refine Below.drew ?_ | refine below_drewN ?_ _ | refine bset ?_ (by simp <;> omega) _ | refine bal ?_ _))
  rintro e w3 ⟨rfl, hb3⟩
  have hk3 : Below w2.heap.size w2 w3 := bthen (by repeat (first | exact Below.refl _ _ | exact hBw | refine Below.drew ?_ | refine below_drewN ?_ _ | refine bset ?_ (by simp <;> omega) _ | refine bal ?_ _)) hb3
  clear hb3 hBw ZC
  go_wp2_with fail
  (with_reducible refine (IC.out _ ?_).mono ?_); (repeat (first | exact Below.refl _ _ | exact hk3 | refine Below.drew ?_ | refine below_drewN ?_ _ | refine bset ?_ (by simp <;> omega) _ | refine bal ?_ _))
  rintro e w4 ⟨⟨va, vc, nb, ua, ul, uc, rfl, hm, hi⟩, hb4⟩
  have hk4 : Below w2.heap.size w2 w4 := bthen (by repeat (first | exact Below.refl _ _ | exact hk3 | refine Below.drew ?_ | refine below_drewN ?_ _ | refine bset ?_ (by simp <;> omega) _ | refine bal ?_ _)) hb4
  have HM := Lib.hid hm
  have HI := Lib.hid hi
  have hBw4 := Below.refl w4.heap.size w4
  clear hb4 hk3 hm hi IC
  go_wp2_with fail
  (with_reducible refine (FC.out _ ?_).mono ?_); (repeat (first | exact Below.refl _ _ | exact hk4 | refine Below.drew ?_ | refine below_drewN ?_ _ | refine bset ?_ (by simp <;> omega) _ | refine bal ?_ _))
  rintro e w5 ⟨⟨fa, fc, rfl, hf⟩, hb5⟩
  have m0 : w5.cell? ⟨w4.heap.size, 0, none⟩ = some (.slice va 3 vc) := bkeep hb5 (by simp [go_sem])
  have i0 : w5.cell? ⟨w4.heap.size + 1, 0, none⟩ = some (.bool nb) := bkeep hb5 (by simp [go_sem])
  have i1 : w5.cell? ⟨w4.heap.size + 1, 1, none⟩ = some (.slice ua ul uc) := bkeep hb5 (by simp [go_sem])
  have hk45 : Below w4.heap.size w4 w5 := bthen (by repeat (first | exact Below.refl _ _ | exact hBw4 | refine Below.drew ?_ | refine below_drewN ?_ _ | refine bset ?_ (by simp <;> omega) _ | refine bal ?_ _)) hb5
  have hB5 := bthen hB2 (bthen hk4 hk45)
  have HM5 := Lib.hid (HM.out.keep hk45)
  have HI5 := Lib.hid (HI.out.keep hk45)
  have HF := Lib.hid hf
  have zm := cell_lt m0
  have zi := cell_lt i0
  have hBw := Below.refl w5.heap.size w5
  clear hb5 hf hk45 hk4 hBw4 HM HI FC hB2
  go_wp2_with fail
  (with_reducible refine (matText_c _ [[1, 0, 0], [1, 1, 1], [1, -1, 1]] 8 _ (HF.out.m.keep ?_) (by decide) (by decide) wL_b1 (by decide) wL_r1 wL_m1).mono ?_); (repeat (first | exact Below.refl _ _ | exact hBw | refine Below.drew ?_ | refine below_drewN ?_ _ | refine bset ?_ (by simp <;> omega) _ | refine bal ?_ _))
  rw [wL_txt1]
  rintro e w6 ⟨rfl, hb6⟩
  have hk6 : Below w5.heap.size w5 w6 := bthen (by repeat (first | exact Below.refl _ _ | exact hBw | refine Below.drew ?_ | refine below_drewN ?_ _ | refine bset ?_ (by simp <;> omega) _ | refine bal ?_ _)) hb6
  replace m0 := bkeep hk6 m0
  replace i0 := bkeep hk6 i0
  replace i1 := bkeep hk6 i1
  replace zm := cell_lt m0
  replace zi := cell_lt i0
  clear hb6 hBw HF
  go_wp2_with fail
  (with_reducible refine (matText_c _ [[2, 0, 0], [0, 1, -1], [-2, 1, 1]] 8 _ (HM5.out.m.keep ?_) (by decide) (by decide) wL_b2 (by decide) wL_r2 wL_m2).mono ?_); (repeat (first | exact Below.refl _ _ | exact hk6 | refine Below.drew ?_ | refine below_drewN ?_ _ | refine bset ?_ (by simp <;> omega) _ | refine bal ?_ _))
  rw [wL_txt2]
  rintro e w7 ⟨rfl, hb7⟩
  have hk7 : Below w5.heap.size w5 w7 := bthen (by repeat (first | exact Below.refl _ _ | exact hk6 | refine Below.drew ?_ | refine below_drewN ?_ _ | refine bset ?_ (by simp <;> omega) _ | refine bal ?_ _)) hb7
  have hk67 : Below w6.heap.size w6 w7 := bthen (by have hq := Below.refl w6.heap.size w6; repeat (first | exact Below.refl _ _ | exact hq | refine Below.drew ?_ | refine below_drewN ?_ _ | refine bset ?_ (by simp <;> omega) _ | refine bal ?_ _)) hb7
  replace i0 := bkeep hk67 i0
  replace i1 := bkeep hk67 i1
  replace zi := cell_lt i0
  clear hb7 hk6 hk67 HM5 m0 zm
  go_wp2_with fail
  (with_reducible refine (intText_c _ 2 8 _ (HI5.out.keep ?_) (by unfold Bd; decide) (by decide)).mono ?_); (repeat (first | exact Below.refl _ _ | exact hk7 | refine Below.drew ?_ | refine below_drewN ?_ _ | refine bset ?_ (by simp <;> omega) _ | refine bal ?_ _))
  rw [wL_txt3]
  rintro e w8 ⟨rfl, hb8⟩
  have hk8 : Below w5.heap.size w5 w8 := bthen (by repeat (first | exact Below.refl _ _ | exact hk7 | refine Below.drew ?_ | refine below_drewN ?_ _ | refine bset ?_ (by simp <;> omega) _ | refine bal ?_ _)) hb8
  have hBf := bthen hB5 hk8
  clear HI5 i0 i1 zi
  go_wp2
  go_ret
  exact ⟨rfl, by repeat (first | exact Below.refl _ _ | exact hBf | refine Below.drew ?_ | refine below_drewN ?_ _ | refine bset ?_ (by simp <;> omega) _ | refine bal ?_ _)⟩
end Go.Proofs.YtkejdmdldhlkgaaGreatDoor

