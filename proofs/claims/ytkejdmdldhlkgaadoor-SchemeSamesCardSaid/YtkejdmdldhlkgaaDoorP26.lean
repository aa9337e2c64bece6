/- Texts of this seat, laid together: ScG, ScI, ScQ. Each opens with its own remark, which says what it proves, and under which conditions. -/
import Derived.Test.YtkejdmdldhlkgaaDoorP25
import Derived.Test.YtkejdmdldhlkgaaDoorP07
import Derived.Test.YtkejdmdldhlkgaaDoorP18
import Derived.Test.YtkejdmdldhlkgaaDoorP24
import Derived.Test.YtkejdmdldhlkgaaDoorP13
set_option linter.unusedVariables false
set_option linter.unusedSimpArgs false
/- scheme: Inverse. -/
namespace Go.Proofs.YtkejdmdldhlkgaaDoor
open Pt
open Num
open Go.ChangeShapes Go.WideShapes Go.ChangeAt Go.RowKit
set_option linter.unusedVariables false
set_option linter.unusedSimpArgs false
attribute [local go_sem ↓] Go.wp_at_zero Go.wp_at_succ
theorem Mt.invB {K n : Nat} {g : Grid} {v : Value} {w : World} (h : Mt K g v w) (hs : g.length = cols g) (hK1 : 1 ≤ K) (hK : kb K 16 ≤ 4294967296) (hd : Det.detE g.length (gat g) ≠ 0) (hn : g.length = n) :
    Calls Tryd.prog 36 #[v] w fun e w' => (∃ a c nb ua ul uc, e = .returned (.tuple #[.agg #[.slice a n c], .agg #[.bool nb, .slice ua ul uc], .int .i64 0]) ∧ Mt (kb K 16) (invG g) (.agg #[.slice a n c]) w' ∧ IsM w.heap.size w' (.agg #[.slice a n c]) (invG g) ∧ IsInt w' (.agg #[.bool nb, .slice ua ul uc]) (invD g)) ∧ Below w.heap.size w w' := by
  have s := h.sz
  refine (invM_c v g K w h.m h.rc (by omega) hK1 h.bd (Nat.le_trans (kb_mono K s.2.2.1) hK)).mono ?_
  rintro e w' ⟨ho, hb⟩
  refine ⟨?_, hb⟩
  rcases ho with ⟨-, -, x, u, rfl, hx, hu⟩ | ⟨-, h2, -⟩ | ⟨h2, -⟩
  · have hx0 := hx
    have hx := hx.rebase (Nat.zero_le _)
    obtain ⟨a, c, rfl⟩ := hx.lit
    obtain ⟨nb, ua, ul, uc, rfl⟩ := hu.lit
    rw [inv_len, hn] at hx hx0 ⊢
    exact ⟨a, c, nb, ua, ul, uc, rfl, inv_mt (n := n) h hK1 hd hx, hx0, hu⟩
  · exact absurd h2 hd
  · have : sqB g = true := by unfold sqB; simp; exact ⟨s.1, hs⟩
    rw [this] at h2; cases h2
theorem pwG_det (n : Nat) (f : Nat → Int × Int) : Det.detE n (gat (pwG n n f)) = Det.far (fun t => (f t).1) (fun t => (f t).2) n := by
  rw [← Det.van]
  refine Det.detE_congr fun i j hi hj => ?_
  rw [show gat (pwG n n f) i j = powF (f i).1 (f i).2 n j from tab_gat hi hj]
  rfl
theorem pwG_sq {n : Nat} (f : Nat → Int × Int) (h : 0 < n) : (pwG n n f).length = cols (pwG n n f) := by rw [pwG_len, pwG_cols f h]
theorem Sch.n1 {k1 k2 : Int} {n : Nat} {f : Nat → Int × Int} (h : Sch k1 k2 n f) : 1 ≤ n := by have := h.cnt; have := h.len; unfold Cnt at *; omega
theorem Sch.n15 {k1 k2 : Int} {n : Nat} {f : Nat → Int × Int} (h : Sch k1 k2 n f) : n ≤ 15 := by have := h.cnt; have := h.len; unfold Cnt at *; omega
theorem Sch.det {k1 k2 : Int} {n : Nat} {f : Nat → Int × Int} (h : Sch k1 k2 n f) : Det.detE (pwG n n f).length (gat (pwG n n f)) ≠ 0 := by
  rw [pwG_len, pwG_det]; exact h.far
set_option maxRecDepth 100000 in
set_option maxHeartbeats 4000000 in
theorem invS_c (b : Nat) (k1 k2 : Int) (n : Nat) (f : Nat → Int × Int) (w : World) (h : SchAt w b k1 k2 n f) (hs : Sch k1 k2 n f) :
    Calls Tryd.prog 19 #[.pointer (some ⟨b, 0, none⟩)] w fun e w' => (∃ a c nb ua ul uc, e = .returned (.tuple #[.agg #[.slice a n c], .agg #[.bool nb, .slice ua ul uc]]) ∧ Mt (kb 200 16) (invG (pwG n n f)) (.agg #[.slice a n c]) w' ∧ IsInt w' (.agg #[.bool nb, .slice ua ul uc]) (invD (pwG n n f))) ∧ Below w.heap.size w w' := by
  have FC := Lib.hid (fun W (q : Below w.heap.size w W) => fullS_c b k1 k2 n f W (h.keep q) hs.all hs.n1 (Nat.le_trans hs.n15 (by decide)))
  have HS := Lib.hid hs
  have zc := cell_lt h.c0
  clear h hs
  have hB := Below.refl w.heap.size w
  go_enter Tryd.func19, Tryd.ntmps19
  go_wp2_with fail
  (with_reducible refine (FC.out _ ?_).mono ?_); (repeat (first | exact Below.refl _ _ | exact hB | refine Below.drew ?_ | refine below_drewN ?_ _ | refine bset ?_ (by simp <;> omega) _ | refine bal ?_ _))
  rintro e w1 ⟨⟨fa, fc, rfl, hf⟩, hb1⟩
  have hB1 : Below w.heap.size w w1 := bthen (by repeat (first | exact Below.refl _ _ | exact hB | refine Below.drew ?_ | refine below_drewN ?_ _ | refine bset ?_ (by simp <;> omega) _ | refine bal ?_ _)) hb1
  have r0 : w1.cell? ⟨w.heap.size, 0, none⟩ = some (.slice none 0 0) := bkeep hb1 (by simp [go_sem])
  have r0f : w1.frozen? ⟨w.heap.size, 0, none⟩ = false := bkeepf hb1 (v := .slice none 0 0) (by simp [go_sem]) (by simp [go_sem])
  have s0 : w1.cell? ⟨w.heap.size + 1, 0, none⟩ = some (.bool false) := bkeep hb1 (by simp [go_sem])
  have s1 : w1.cell? ⟨w.heap.size + 1, 1, none⟩ = some (.slice none 0 0) := bkeep hb1 (by simp [go_sem])
  have s0f : w1.frozen? ⟨w.heap.size + 1, 0, none⟩ = false := bkeepf hb1 (v := .bool false) (by simp [go_sem]) (by simp [go_sem])
  have s1f : w1.frozen? ⟨w.heap.size + 1, 1, none⟩ = false := bkeepf hb1 (v := .slice none 0 0) (by simp [go_sem]) (by simp [go_sem])
  have HR := Lib.hid (And.intro r0 (And.intro r0f (And.intro s0 (And.intro s1 (And.intro s0f s1f)))))
  have zs := cell_lt s0
  have HZ := Lib.hid zs
  have IC := Lib.hid (fun W (q : Below w1.heap.size w1 W) => Mt.invB (n := n) (hf.keep q) (pwG_sq f HS.out.n1) (by decide) (by decide) HS.out.det (pwG_len n n f))
  have hBw := Below.refl w1.heap.size w1
  clear FC hb1 hf hB r0 r0f s0 s1 s0f s1f
  go_wp2_with fail
  (with_reducible refine (IC.out _ ?_).mono ?_); (repeat (first | exact Below.refl _ _ | exact hBw | refine Below.drew ?_ | refine below_drewN ?_ _ | refine bset ?_ (by simp <;> omega) _ | refine bal ?_ _))
  rintro e w2 ⟨⟨va, vc, nb, ua, ul, uc, rfl, hm, hmb, hi⟩, hb2⟩
  have hk2 : Below w1.heap.size w1 w2 := bthen (by repeat (first | exact Below.refl _ _ | exact hBw | refine Below.drew ?_ | refine below_drewN ?_ _ | refine bset ?_ (by simp <;> omega) _ | refine bal ?_ _)) hb2
  have hmb2 := hmb.rebase (show w1.heap.size ≤ _ from (show Below w1.heap.size w1 _ by repeat (first | exact Below.refl _ _ | exact hBw | refine Below.drew ?_ | refine below_drewN ?_ _ | refine bset ?_ (by simp <;> omega) _ | refine bal ?_ _)).size)
  have HM := Lib.hid (And.intro hm (And.intro hmb2 hi))
  have r0 := bkeep hk2 HR.out.1
  have r0f := bkeepf hk2 HR.out.1 HR.out.2.1
  have s0 := bkeep hk2 HR.out.2.2.1
  have s1 := bkeep hk2 HR.out.2.2.2.1
  have s0f := bkeepf hk2 HR.out.2.2.1 HR.out.2.2.2.2.1
  have s1f := bkeepf hk2 HR.out.2.2.2.1 HR.out.2.2.2.2.2
  have hB2 := bthen hB1 hk2
  have zr := cell_lt r0
  have zs2 := cell_lt s0
  clear IC hb2 hm hmb hmb2 hi hBw hk2 HR
  go_wp2
  refine wp_name fun w3 hW3 => ?_
  have hBw := Below.refl w2.heap.size w2
  have hk3 : Below w2.heap.size w2 w3 := by rw [hW3]; repeat (first | exact Below.refl _ _ | exact hBw | refine Below.drew ?_ | refine below_drewN ?_ _ | refine bset ?_ (by simp <;> omega) _ | refine bal ?_ _)
  have m0 : w3.cell? ⟨w2.heap.size, 0, none⟩ = some (.slice va n vc) := by rw [hW3]; simp [go_sem]
  have i0 : w3.cell? ⟨w2.heap.size + 1, 0, none⟩ = some (.bool nb) := by rw [hW3]; simp [go_sem]
  have i1 : w3.cell? ⟨w2.heap.size + 1, 1, none⟩ = some (.slice ua ul uc) := by rw [hW3]; simp [go_sem]
  clear hW3 hBw
  replace r0f := bkeepf hk3 r0 r0f
  replace s0f := bkeepf hk3 s0 s0f
  replace s1f := bkeepf hk3 s1 s1f
  replace r0 := bkeep hk3 r0
  replace s0 := bkeep hk3 s0
  replace s1 := bkeep hk3 s1
  have zm := cell_lt m0
  have zi := cell_lt i0
  have hB3 := bthen hB2 hk3
  have n1 : ¬ w2.heap.size = w.heap.size := by omega
  have n2 : ¬ w2.heap.size = w.heap.size + 1 := by omega
  have n3 : ¬ w2.heap.size + 1 = w.heap.size := by omega
  have HM3 := Lib.hid (And.intro (HM.out.1.keep hk3) (And.intro (HM.out.2.1.keep hk3) (HM.out.2.2.keep hk3)))
  have HL := Lib.hid (((Lim.refl w3).slice r0 (.slice va n vc)))
  have HZ2 := Lib.hid HZ.out
  clear hk3 HM
  go_region
  all_goals
    have hL1 := (Lim.refl w3).slice r0 (.slice va n vc)
    have s0' := cell_far s0 (p := ⟨w.heap.size, 0, none⟩) (addr_ne (by omega)) (.slice va n vc)
    have s1' := cell_far s1 (p := ⟨w.heap.size, 0, none⟩) (addr_ne (by omega)) (.slice va n vc)
    have hL2 := hL1.trans (Lim.set2 s0' s1' (.bool nb) (.slice ua ul uc))
    have hO : Out (fun q => q < w1.heap.size) w3 (((w3.setCell ⟨w.heap.size, 0, none⟩ (.slice va n vc)).setCell ⟨w.heap.size + 1, 0, none⟩ (.bool nb)).setCell ⟨w.heap.size + 1, 1, none⟩ (.slice ua ul uc)).drew := (((((Out.refl _ w3).set (p := ⟨w.heap.size, 0, none⟩) (fun _ => by show w.heap.size < w1.heap.size; have := HZ2.out; omega) _).set2 (g := w.heap.size + 1) (o := 0) (fun _ => HZ2.out) _ _))).drew
    have HMF := Lib.hid (show Mt (kb 200 16) (invG (pwG n n f)) (.agg #[.slice va n vc]) (((w3.setCell ⟨w.heap.size, 0, none⟩ (.slice va n vc)).setCell ⟨w.heap.size + 1, 0, none⟩ (.bool nb)).setCell ⟨w.heap.size + 1, 1, none⟩ (.slice ua ul uc)).drew from ⟨(HM3.out.2.1.out hO (fun q hq => Nat.not_lt.2 hq) hL2).rebase (Nat.zero_le _), HM3.out.1.rc, HM3.out.1.sz, HM3.out.1.bd⟩)
    have HIF := Lib.hid (HM3.out.2.2.lim hL2)
    have hBF := bset (bset (bset hB3 (p := ⟨w.heap.size, 0, none⟩) (Nat.le_refl _) (.slice va n vc)) (p := ⟨w.heap.size + 1, 0, none⟩) (by show w.heap.size ≤ w.heap.size + 1; omega) (.bool nb)) (p := ⟨w.heap.size + 1, 1, none⟩) (by show w.heap.size ≤ w.heap.size + 1; omega) (.slice ua ul uc)
    clear hO hL1 hL2 HM3 HL
    go_wp2
    refine bodyPost_ret (v := .tuple #[.agg #[.slice va n vc], .agg #[.bool nb, .slice ua ul uc]]) (by simp [results, Tryd.results19, go_sem, *]) rfl ⟨⟨va, vc, nb, ua, ul, uc, rfl, HMF.out, (by first | exact HIF.out | exact HIF.out.lim (Lim.refl _).drew)⟩, ?_⟩
    repeat (first | exact Below.refl _ _ | exact hBF | refine Below.drew ?_ | refine below_drewN ?_ _ | refine bset ?_ (by simp <;> omega) _ | refine bal ?_ _)
end Go.Proofs.YtkejdmdldhlkgaaDoor

/- scheme's laws: works answers true. -/
namespace Go.Proofs.YtkejdmdldhlkgaaDoor
open Pt
open Num
open Go.ChangeShapes Go.WideShapes Go.ChangeAt Go.RowKit
set_option linter.unusedVariables false
set_option linter.unusedSimpArgs false
attribute [local go_sem ↓] Go.wp_at_zero Go.wp_at_succ
/-- the example -/
def wL : List Int := [0, 1, 1, 1, -1, 1]
theorem nat3 {i : Nat} (h : i < 3) : i = 0 ∨ i = 1 ∨ i = 2 := by omega
theorem wL_sch : Sch 2 2 3 (evF wL) := by
  refine ⟨by unfold Cnt; decide, fun i hi => ?_, by decide, fun i hi => ?_, fun j hj i hi => ?_⟩
  · rcases nat3 hi with rfl | rfl | rfl <;> decide
  · rcases nat3 hi with rfl | rfl | rfl <;> decide
  · rcases nat3 hj with rfl | rfl | rfl
    · omega
    · obtain rfl : i = 0 := by omega
      decide
    · rcases (show i = 0 ∨ i = 1 by omega) with rfl | rfl <;> decide
theorem wL_full : pwG 3 3 (evF wL) = [[1, 0, 0], [1, 1, 1], [1, -1, 1]] := by kernel_rfl
theorem wL_inv : invG [[1, 0, 0], [1, 1, 1], [1, -1, 1]] = [[2, 0, 0], [0, 1, -1], [-2, 1, 1]] := by kernel_rfl
theorem wL_invD : invD [[1, 0, 0], [1, 1, 1], [1, -1, 1]] = 2 := by kernel_rfl
theorem wL_txt1 : matTxt [[1, 0, 0], [1, 1, 1], [1, -1, 1]] = [91, 91, 49, 32, 48, 32, 48, 93, 32, 91, 49, 32, 49, 32, 49, 93, 32, 91, 49, 32, 45, 49, 32, 49, 93, 93] := by kernel_rfl
theorem wL_txt2 : matTxt [[2, 0, 0], [0, 1, -1], [-2, 1, 1]] = [91, 91, 50, 32, 48, 32, 48, 93, 32, 91, 48, 32, 49, 32, 45, 49, 93, 32, 91, 45, 50, 32, 49, 32, 49, 93, 93] := by kernel_rfl
theorem wL_txt3 : intTxt 2 = [50] := by kernel_rfl
theorem wL_r1 : ∀ i, i < ([[1, 0, 0], [1, 1, 1], [1, -1, 1]] : Grid).length → (Lib.join ((([[1, 0, 0], [1, 1, 1], [1, -1, 1]] : Grid).getD i []).map intTxt) [32]).length ≤ 140737488355328 := by
  intro i hi
  have e0 : (Lib.join (([1, 0, 0] : List Int).map intTxt) [32]).length = 5 := by kernel_rfl
  have e1 : (Lib.join (([1, 1, 1] : List Int).map intTxt) [32]).length = 5 := by kernel_rfl
  have e2 : (Lib.join (([1, -1, 1] : List Int).map intTxt) [32]).length = 6 := by kernel_rfl
  rcases nat3 hi with rfl | rfl | rfl
  · exact Nat.le_trans (Nat.le_of_eq e0) (by decide)
  · exact Nat.le_trans (Nat.le_of_eq e1) (by decide)
  · exact Nat.le_trans (Nat.le_of_eq e2) (by decide)
theorem wL_m1 : (Lib.join (([[1, 0, 0], [1, 1, 1], [1, -1, 1]] : Grid).map rowTxt) [32]).length ≤ 140737488355328 := by
  have e : (Lib.join (([[1, 0, 0], [1, 1, 1], [1, -1, 1]] : Grid).map rowTxt) [32]).length = 24 := by kernel_rfl
  exact Nat.le_trans (Nat.le_of_eq e) (by decide)
theorem wL_r2 : ∀ i, i < ([[2, 0, 0], [0, 1, -1], [-2, 1, 1]] : Grid).length → (Lib.join ((([[2, 0, 0], [0, 1, -1], [-2, 1, 1]] : Grid).getD i []).map intTxt) [32]).length ≤ 140737488355328 := by
  intro i hi
  have e0 : (Lib.join (([2, 0, 0] : List Int).map intTxt) [32]).length = 5 := by kernel_rfl
  have e1 : (Lib.join (([0, 1, -1] : List Int).map intTxt) [32]).length = 6 := by kernel_rfl
  have e2 : (Lib.join (([-2, 1, 1] : List Int).map intTxt) [32]).length = 6 := by kernel_rfl
  rcases nat3 hi with rfl | rfl | rfl
  · exact Nat.le_trans (Nat.le_of_eq e0) (by decide)
  · exact Nat.le_trans (Nat.le_of_eq e1) (by decide)
  · exact Nat.le_trans (Nat.le_of_eq e2) (by decide)
theorem wL_m2 : (Lib.join (([[2, 0, 0], [0, 1, -1], [-2, 1, 1]] : Grid).map rowTxt) [32]).length ≤ 140737488355328 := by
  have e : (Lib.join (([[2, 0, 0], [0, 1, -1], [-2, 1, 1]] : Grid).map rowTxt) [32]).length = 25 := by kernel_rfl
  exact Nat.le_trans (Nat.le_of_eq e) (by decide)
theorem bdM_of3 {k : Nat} {g : Grid} (h : ∀ r ∈ g, ∀ x ∈ r, x.natAbs < 2 ^ k) : BdM k g := by
  intro i j
  unfold gat
  by_cases hi : i < g.length
  · have e : g.getD i [] = g[i] := by simp [hi]
    rw [e]
    by_cases hj : j < g[i].length
    · have e2 : g[i].getD j 0 = g[i][j] := by simp [hj]
      rw [e2]; exact h _ (List.getElem_mem _) _ (List.getElem_mem _)
    · rw [List.getD_eq_getElem?_getD, List.getElem?_eq_none (by omega)]; exact bd_zero
  · have e : g.getD i [] = [] := by rw [List.getD_eq_getElem?_getD, List.getElem?_eq_none (by omega)]; rfl
    rw [e]; exact bd_zero
theorem wL_b1 : BdM 8 [[1, 0, 0], [1, 1, 1], [1, -1, 1]] := bdM_of3 (by decide)
theorem wL_b2 : BdM 8 [[2, 0, 0], [0, 1, -1], [-2, 1, 1]] := bdM_of3 (by decide)
theorem NewSPost.yes {k1 k2 : Int} {n : Nat} {f : Nat → Int × Int} {w w' : World} {e : Ending} (h : NewSPost k1 k2 n f w e w') (hs : Sch k1 k2 n f) : (∃ b, e = .returned (.tuple #[.pointer (some ⟨b, 0, none⟩), .int .i64 0]) ∧ SchAt w' b k1 k2 n f) ∧ Below w.heap.size w w' := by
  obtain ⟨⟨no, h1, h2, -⟩ | ⟨-, h⟩, hB⟩ := h
  · exact absurd (h1.unique (.inr (.inr ⟨hs, rfl⟩))) h2
  · exact ⟨h, hB⟩
set_option maxRecDepth 100000 in
set_option maxHeartbeats 8000000 in
theorem works7_c (w : World) : Calls Tryd.prog 5 #[] w fun e w' => e = .returned (.bool true) ∧ Below w.heap.size w w' := by
  have hB := Below.refl w.heap.size w
  go_enter Tryd.func5, Tryd.ntmps5
  go_wp2_with fail
  (with_reducible refine (points7_c w.heap.size 0 6 6 3 wL _ rfl (by decide) ?_).mono ?_)
  · intro k hk
    rcases (show k = 0 ∨ k = 1 ∨ k = 2 ∨ k = 3 ∨ k = 4 ∨ k = 5 by omega) with rfl | rfl | rfl | rfl | rfl | rfl <;> exact cell_new rfl rfl
  rintro e w1 ⟨⟨pa, pc, rfl, hp⟩, hb1⟩
  have hB1 : Below w.heap.size w w1 := bthen (by repeat (first | exact Below.refl _ _ | exact hB | refine Below.drew ?_ | refine below_drewN ?_ _ | refine bset ?_ (by simp <;> omega) _ | refine bal ?_ _)) hb1
  have HP := Lib.hid hp
  have NC := Lib.hid (fun W (q : Below w1.heap.size w1 W) => newS_c 2 2 pa 3 pc (evF wL) W (HP.out.keep q) (by decide))
  have hBw := Below.refl w1.heap.size w1
  clear hp hb1 hB
  go_wp2_with fail
  (with_reducible refine (NC.out _ ?_).mono ?_); (repeat (first | exact Below.refl _ _ | exact hBw | refine Below.drew ?_ | refine below_drewN ?_ _ | refine bset ?_ (by simp <;> omega) _ | refine bal ?_ _))
  intro e w2 hN
  obtain ⟨⟨b, rfl, hs⟩, hb2⟩ := hN.yes wL_sch
  have hB2 := bthen hB1 (bthen (show Below w1.heap.size w1 _ by repeat (first | exact Below.refl _ _ | exact hBw | refine Below.drew ?_ | refine below_drewN ?_ _ | refine bset ?_ (by simp <;> omega) _ | refine bal ?_ _)) hb2)
  have HS := Lib.hid hs
  clear hN hb2 hs HP NC hBw hB1
  have ZC := Lib.hid (fun W (q : Below w2.heap.size w2 W) => sizeS_c b 2 2 3 (evF wL) W (HS.out.keep q))
  have IC := Lib.hid (fun W (q : Below w2.heap.size w2 W) => invS_c b 2 2 3 (evF wL) W (HS.out.keep q) wL_sch)
  have FC := Lib.hid (fun W (q : Below w2.heap.size w2 W) => fullS_c b 2 2 3 (evF wL) W (HS.out.keep q) wL_sch.all (by decide) (by decide))
  rw [wL_full] at IC FC
  rw [wL_inv, wL_invD] at IC
  have hBw := Below.refl w2.heap.size w2
  clear HS
  go_wp2_with fail
  (with_reducible refine (ZC.out _ ?_).mono ?_); (repeat (first | exact Below.refl _ _ | exact hBw | refine Below.drew ?_ | refine below_drewN ?_ _ | refine bset ?_ (by simp <;> omega) _ | refine bal ?_ _))
  rintro e w3 ⟨rfl, hb3⟩
  have hk3 : Below w2.heap.size w2 w3 := bthen (by repeat (first | exact Below.refl _ _ | exact hBw | refine Below.drew ?_ | refine below_drewN ?_ _ | refine bset ?_ (by simp <;> omega) _ | refine bal ?_ _)) hb3
  clear hb3 hBw ZC
  go_wp2_with fail
  (with_reducible refine (IC.out _ ?_).mono ?_); (repeat (first | exact Below.refl _ _ | exact hk3 | refine Below.drew ?_ | refine below_drewN ?_ _ | refine bset ?_ (by simp <;> omega) _ | refine bal ?_ _))
  rintro e w4 ⟨⟨va, vc, nb, ua, ul, uc, rfl, hm, hi⟩, hb4⟩
  have hk4 : Below w2.heap.size w2 w4 := bthen (by repeat (first | exact Below.refl _ _ | exact hk3 | refine Below.drew ?_ | refine below_drewN ?_ _ | refine bset ?_ (by simp <;> omega) _ | refine bal ?_ _)) hb4
  have HM := Lib.hid hm
  have HI := Lib.hid hi
  have hBw4 := Below.refl w4.heap.size w4
  clear hb4 hk3 hm hi IC
  go_wp2_with fail
  (with_reducible refine (FC.out _ ?_).mono ?_); (repeat (first | exact Below.refl _ _ | exact hk4 | refine Below.drew ?_ | refine below_drewN ?_ _ | refine bset ?_ (by simp <;> omega) _ | refine bal ?_ _))
  rintro e w5 ⟨⟨fa, fc, rfl, hf⟩, hb5⟩
  have m0 : w5.cell? ⟨w4.heap.size, 0, none⟩ = some (.slice va 3 vc) := bkeep hb5 (by simp [go_sem])
  have i0 : w5.cell? ⟨w4.heap.size + 1, 0, none⟩ = some (.bool nb) := bkeep hb5 (by simp [go_sem])
  have i1 : w5.cell? ⟨w4.heap.size + 1, 1, none⟩ = some (.slice ua ul uc) := bkeep hb5 (by simp [go_sem])
  have hk45 : Below w4.heap.size w4 w5 := bthen (by repeat (first | exact Below.refl _ _ | exact hBw4 | refine Below.drew ?_ | refine below_drewN ?_ _ | refine bset ?_ (by simp <;> omega) _ | refine bal ?_ _)) hb5
  have hB5 := bthen hB2 (bthen hk4 hk45)
  have HM5 := Lib.hid (HM.out.keep hk45)
  have HI5 := Lib.hid (HI.out.keep hk45)
  have HF := Lib.hid hf
  have zm := cell_lt m0
  have zi := cell_lt i0
  have hBw := Below.refl w5.heap.size w5
  clear hb5 hf hk45 hk4 hBw4 HM HI FC hB2
  go_wp2_with fail
  (with_reducible refine (matText_c _ [[1, 0, 0], [1, 1, 1], [1, -1, 1]] 8 _ (HF.out.m.keep ?_) (by decide) (by decide) wL_b1 (by decide) wL_r1 wL_m1).mono ?_); (repeat (first | exact Below.refl _ _ | exact hBw | refine Below.drew ?_ | refine below_drewN ?_ _ | refine bset ?_ (by simp <;> omega) _ | refine bal ?_ _))
  rw [wL_txt1]
  rintro e w6 ⟨rfl, hb6⟩
  have hk6 : Below w5.heap.size w5 w6 := bthen (by repeat (first | exact Below.refl _ _ | exact hBw | refine Below.drew ?_ | refine below_drewN ?_ _ | refine bset ?_ (by simp <;> omega) _ | refine bal ?_ _)) hb6
  replace m0 := bkeep hk6 m0
  replace i0 := bkeep hk6 i0
  replace i1 := bkeep hk6 i1
  replace zm := cell_lt m0
  replace zi := cell_lt i0
  clear hb6 hBw HF
  go_wp2_with fail
  (with_reducible refine (matText_c _ [[2, 0, 0], [0, 1, -1], [-2, 1, 1]] 8 _ (HM5.out.m.keep ?_) (by decide) (by decide) wL_b2 (by decide) wL_r2 wL_m2).mono ?_); (repeat (first | exact Below.refl _ _ | exact hk6 | refine Below.drew ?_ | refine below_drewN ?_ _ | refine bset ?_ (by simp <;> omega) _ | refine bal ?_ _))
  rw [wL_txt2]
  rintro e w7 ⟨rfl, hb7⟩
  have hk7 : Below w5.heap.size w5 w7 := bthen (by repeat (first | exact Below.refl _ _ | exact hk6 | refine Below.drew ?_ | refine below_drewN ?_ _ | refine bset ?_ (by simp <;> omega) _ | refine bal ?_ _)) hb7
  have hk67 : Below w6.heap.size w6 w7 := bthen (by have hq := Below.refl w6.heap.size w6; repeat (first | exact Below.refl _ _ | exact hq | refine Below.drew ?_ | refine below_drewN ?_ _ | refine bset ?_ (by simp <;> omega) _ | refine bal ?_ _)) hb7
  replace i0 := bkeep hk67 i0
  replace i1 := bkeep hk67 i1
  replace zi := cell_lt i0
  clear hb7 hk6 hk67 HM5 m0 zm
  go_wp2_with fail
  (with_reducible refine (intText_c _ 2 8 _ (HI5.out.keep ?_) (by unfold Bd; decide) (by decide)).mono ?_); (repeat (first | exact Below.refl _ _ | exact hk7 | refine Below.drew ?_ | refine below_drewN ?_ _ | refine bset ?_ (by simp <;> omega) _ | refine bal ?_ _))
  rw [wL_txt3]
  rintro e w8 ⟨rfl, hb8⟩
  have hk8 : Below w5.heap.size w5 w8 := bthen (by repeat (first | exact Below.refl _ _ | exact hk7 | refine Below.drew ?_ | refine below_drewN ?_ _ | refine bset ?_ (by simp <;> omega) _ | refine bal ?_ _)) hb8
  have hBf := bthen hB5 hk8
  clear HI5 i0 i1 zi
  go_wp2
  go_ret
  exact ⟨rfl, by repeat (first | exact Below.refl _ _ | exact hBf | refine Below.drew ?_ | refine below_drewN ?_ _ | refine bset ?_ (by simp <;> omega) _ | refine bal ?_ _)⟩
end Go.Proofs.YtkejdmdldhlkgaaDoor

/- SchemeSames: two schemes, or one and none: whether they are the same. -/
namespace Go.Proofs.YtkejdmdldhlkgaaDoor
open Pt
open Num
open Go.ChangeShapes Go.WideShapes Go.ChangeAt Go.RowKit
set_option linter.unusedVariables false
set_option linter.unusedSimpArgs false
attribute [local go_sem ↓] Go.wp_at_zero Go.wp_at_succ
set_option maxRecDepth 100000 in
set_option maxHeartbeats 16000000 in
theorem schemeSames_h (k1 k2 : Int) (pa : Option Addr) (n cap : Nat) (f : Nat → Int × Int) (k3 k4 : Int) (qa : Option Addr) (m cup : Nat) (g : Nat → Int × Int) (w : World) (h : PtsV w pa n cap f) (hn : n ≤ 4611686018427387904) (h' : PtsV w qa m cup g) (hm : m ≤ 4611686018427387904) :
    Calls Tryd.prog 3 #[.int .i64 k1, .int .i64 k2, .slice pa n cap, .int .i64 k3, .int .i64 k4, .slice qa m cup] w fun e w' => e = .returned (.bool true) ∧ Below w.heap.size w w' := by
  have HP := Lib.hid h
  have HQ := Lib.hid h'
  have HNM := Lib.hid (And.intro hn hm)
  have hB := Below.refl w.heap.size w
  clear h h' hn hm
  go_enter Tryd.func3, Tryd.ntmps3
  go_wp2_with fail
  (with_reducible refine (works7_c _).mono ?_)
  rintro e w1 ⟨rfl, hb1⟩
  have hB1 : Below w.heap.size w w1 := bthen (by repeat (first | exact Below.refl _ _ | exact hB | refine Below.drew ?_ | refine below_drewN ?_ _ | refine bset ?_ (by simp <;> omega) _ | refine bal ?_ _)) hb1
  have NC := Lib.hid (fun W (q : Below w1.heap.size w1 W) => newS_c k1 k2 pa n cap f W (HP.out.keep (bthen hB1 q)) HNM.out.1)
  have hBw := Below.refl w1.heap.size w1
  clear hb1 hB
  go_wp2_with fail
  (with_reducible refine (NC.out _ ?_).mono ?_); (repeat (first | exact Below.refl _ _ | exact hBw | refine Below.drew ?_ | refine below_drewN ?_ _ | refine bset ?_ (by simp <;> omega) _ | refine bal ?_ _))
  intro e w2 hN
  obtain ⟨hN, hb2⟩ := hN
  have hB2 : Below w.heap.size w w2 := bthen hB1 (bthen (by repeat (first | exact Below.refl _ _ | exact hBw | refine Below.drew ?_ | refine below_drewN ?_ _ | refine bset ?_ (by simp <;> omega) _ | refine bal ?_ _)) hb2)
  have NC2 := Lib.hid (fun W (q : Below w2.heap.size w2 W) => newS_c k3 k4 qa m cup g W (HQ.out.keep (bthen hB2 q)) HNM.out.2)
  have hBw := Below.refl w2.heap.size w2
  clear hb2 NC hB1
  rcases hN with ⟨no, -, hne, rfl⟩ | ⟨hS, b, rfl, hs⟩
  · have hI : (no != 0) = true := by simpa using hne
    go_wp2_with fail
    (with_reducible refine (NC2.out _ ?_).mono ?_); (repeat (first | exact Below.refl _ _ | exact hBw | refine Below.drew ?_ | refine below_drewN ?_ _ | refine bset ?_ (by simp <;> omega) _ | refine bal ?_ _))
    intro e w3 hN
    obtain ⟨hN, hb3⟩ := hN
    have hB3 : Below w.heap.size w w3 := bthen hB2 (bthen (by repeat (first | exact Below.refl _ _ | exact hBw | refine Below.drew ?_ | refine below_drewN ?_ _ | refine bset ?_ (by simp <;> omega) _ | refine bal ?_ _)) hb3)
    clear hb3 hBw NC2 hB2
    rcases hN with ⟨no2, -, hne2, rfl⟩ | ⟨hS2, b2, rfl, hs2⟩
    · have hI2 : (no2 != 0) = true := by simpa using hne2
      clear hne hne2
      have S1 := Lib.hid (fun V => sameS_nil none none V (by simp))
      have S2 := Lib.hid (fun V => sameS_nil none none V (by simp))
      have hBw := Below.refl w3.heap.size w3
      go_wp2_with fail
      (with_reducible refine (S1.out _).mono ?_)
      rintro e w4 ⟨rfl, hb4⟩
      have hB4 : Below w.heap.size w w4 := bthen hB3 (bthen (by repeat (first | exact Below.refl _ _ | exact hBw | refine Below.drew ?_ | refine below_drewN ?_ _ | refine bset ?_ (by simp <;> omega) _ | refine bal ?_ _)) hb4)
      have hBw4 := Below.refl w4.heap.size w4
      go_wp2_with fail
      (with_reducible refine (S2.out _).mono ?_)
      rintro e w5 ⟨rfl, hb5⟩
      have hB5 : Below w.heap.size w w5 := bthen hB4 (bthen (by repeat (first | exact Below.refl _ _ | exact hBw4 | refine Below.drew ?_ | refine below_drewN ?_ _ | refine bset ?_ (by simp <;> omega) _ | refine bal ?_ _)) hb5)
      go_wp2
      go_ret
      exact ⟨rfl, by repeat (first | exact Below.refl _ _ | exact hB5 | refine Below.drew ?_ | refine below_drewN ?_ _ | refine bset ?_ (by simp <;> omega) _ | refine bal ?_ _)⟩
    · clear hne hS2 hs2
      have S1 := Lib.hid (fun V => sameS_nil none (some ⟨b2, 0, none⟩) V (by simp))
      have S2 := Lib.hid (fun V => sameS_nil (some ⟨b2, 0, none⟩) none V (by simp))
      have hBw := Below.refl w3.heap.size w3
      go_wp2_with fail
      (with_reducible refine (S1.out _).mono ?_)
      rintro e w4 ⟨rfl, hb4⟩
      have hB4 : Below w.heap.size w w4 := bthen hB3 (bthen (by repeat (first | exact Below.refl _ _ | exact hBw | refine Below.drew ?_ | refine below_drewN ?_ _ | refine bset ?_ (by simp <;> omega) _ | refine bal ?_ _)) hb4)
      have hBw4 := Below.refl w4.heap.size w4
      go_wp2_with fail
      (with_reducible refine (S2.out _).mono ?_)
      rintro e w5 ⟨rfl, hb5⟩
      have hB5 : Below w.heap.size w w5 := bthen hB4 (bthen (by repeat (first | exact Below.refl _ _ | exact hBw4 | refine Below.drew ?_ | refine below_drewN ?_ _ | refine bset ?_ (by simp <;> omega) _ | refine bal ?_ _)) hb5)
      go_wp2
      go_ret
      exact ⟨rfl, by repeat (first | exact Below.refl _ _ | exact hB5 | refine Below.drew ?_ | refine below_drewN ?_ _ | refine bset ?_ (by simp <;> omega) _ | refine bal ?_ _)⟩
  have HS := Lib.hid hs
  clear hS hs
  go_wp2_with fail
  (with_reducible refine (NC2.out _ ?_).mono ?_); (repeat (first | exact Below.refl _ _ | exact hBw | refine Below.drew ?_ | refine below_drewN ?_ _ | refine bset ?_ (by simp <;> omega) _ | refine bal ?_ _))
  intro e w3 hN
  obtain ⟨hN, hb3⟩ := hN
  have hk3 : Below w2.heap.size w2 w3 := bthen (by repeat (first | exact Below.refl _ _ | exact hBw | refine Below.drew ?_ | refine below_drewN ?_ _ | refine bset ?_ (by simp <;> omega) _ | refine bal ?_ _)) hb3
  have hB3 : Below w.heap.size w w3 := bthen hB2 hk3
  have HS3 := Lib.hid (HS.out.keep hk3)
  clear hb3 hBw NC2 hB2 hk3 HS
  rcases hN with ⟨no2, -, hne2, rfl⟩ | ⟨hS2, b2, rfl, hs2⟩
  · have hI2 : (no2 != 0) = true := by simpa using hne2
    clear hne2
    have S1 := Lib.hid (fun V => sameS_nil (some ⟨b, 0, none⟩) none V (by simp))
    have S2 := Lib.hid (fun V => sameS_nil none (some ⟨b, 0, none⟩) V (by simp))
    have hBw := Below.refl w3.heap.size w3
    go_wp2_with fail
    (with_reducible refine (S1.out _).mono ?_)
    rintro e w4 ⟨rfl, hb4⟩
    have hB4 : Below w.heap.size w w4 := bthen hB3 (bthen (by repeat (first | exact Below.refl _ _ | exact hBw | refine Below.drew ?_ | refine below_drewN ?_ _ | refine bset ?_ (by simp <;> omega) _ | refine bal ?_ _)) hb4)
    have hBw4 := Below.refl w4.heap.size w4
    go_wp2_with fail
    (with_reducible refine (S2.out _).mono ?_)
    rintro e w5 ⟨rfl, hb5⟩
    have hB5 : Below w.heap.size w w5 := bthen hB4 (bthen (by repeat (first | exact Below.refl _ _ | exact hBw4 | refine Below.drew ?_ | refine below_drewN ?_ _ | refine bset ?_ (by simp <;> omega) _ | refine bal ?_ _)) hb5)
    go_wp2
    go_ret
    exact ⟨rfl, by repeat (first | exact Below.refl _ _ | exact hB5 | refine Below.drew ?_ | refine below_drewN ?_ _ | refine bset ?_ (by simp <;> omega) _ | refine bal ?_ _)⟩
  have HT3 := Lib.hid hs2
  clear hS2 hs2
  obtain ⟨v, hv⟩ := SameB.ex k1 k2 k3 k4 n m f g
  have HV := Lib.hid hv
  have S12 := Lib.hid (fun V (q : Below w3.heap.size w3 V) => sameS_c b b2 k1 k2 k3 k4 n m f g v V (HS3.out.keep q) (HT3.out.keep q) HNM.out.1 HNM.out.2 HV.out)
  have S21 := Lib.hid (fun V (q : Below w3.heap.size w3 V) => sameS_c b2 b k3 k4 k1 k2 m n g f v V (HT3.out.keep q) (HS3.out.keep q) HNM.out.2 HNM.out.1 HV.out.symm)
  have S11 := Lib.hid (fun V (q : Below w3.heap.size w3 V) => sameS_c b b k1 k2 k1 k2 n n f f true V (HS3.out.keep q) (HS3.out.keep q) HNM.out.1 HNM.out.1 (SameB.refl k1 k2 n f))
  clear hv
  have hk := Below.refl w3.heap.size w3
  by_cases h1 : k1 = k3
  · subst h1
    by_cases h2 : k2 = k4
    · subst h2
      have EC := Lib.hid (fun W (q : Below w3.heap.size w3 W) => eqPts_v pa qa n m cap cup f g v W (HP.out.keep (bthen hB3 q)) (HQ.out.keep (bthen hB3 q)) HNM.out.1 HNM.out.2 HV.out.pts)
      go_wp2_with fail
      (with_reducible refine (EC.out _ ?_).mono ?_); (repeat (first | exact Below.refl _ _ | exact hk | refine Below.drew ?_ | refine below_drewN ?_ _ | refine bset ?_ (by simp <;> omega) _ | refine bal ?_ _))
      rintro e w4 ⟨rfl, hb4⟩
      have hk4 : Below w3.heap.size w3 w4 := bthen (by repeat (first | exact Below.refl _ _ | exact hk | refine Below.drew ?_ | refine below_drewN ?_ _ | refine bset ?_ (by simp <;> omega) _ | refine bal ?_ _)) hb4
      clear hk hb4 EC
      have hk := hk4
      clear hk4
      have hBy := Below.refl w4.heap.size w4
      go_wp2_with fail
      (with_reducible refine (S12.out _ ?_).mono ?_); (repeat (first | exact Below.refl _ _ | exact hk | refine Below.drew ?_ | refine below_drewN ?_ _ | refine bset ?_ (by simp <;> omega) _ | refine bal ?_ _))
      rintro e w6 ⟨rfl, hb6⟩
      have hk6 : Below w3.heap.size w3 w6 := bthen (by repeat (first | exact Below.refl _ _ | exact hk | refine Below.drew ?_ | refine below_drewN ?_ _ | refine bset ?_ (by simp <;> omega) _ | refine bal ?_ _)) hb6
      clear hb6 hBy
      go_wp2_with fail
      (with_reducible refine (S21.out _ ?_).mono ?_); (repeat (first | exact Below.refl _ _ | exact hk6 | refine Below.drew ?_ | refine below_drewN ?_ _ | refine bset ?_ (by simp <;> omega) _ | refine bal ?_ _))
      rintro e w7 ⟨rfl, hb7⟩
      have hk7 : Below w3.heap.size w3 w7 := bthen (by repeat (first | exact Below.refl _ _ | exact hk6 | refine Below.drew ?_ | refine below_drewN ?_ _ | refine bset ?_ (by simp <;> omega) _ | refine bal ?_ _)) hb7
      clear hb7
      go_wp2_with fail
      (with_reducible refine (S11.out _ ?_).mono ?_); (repeat (first | exact Below.refl _ _ | exact hk7 | refine Below.drew ?_ | refine below_drewN ?_ _ | refine bset ?_ (by simp <;> omega) _ | refine bal ?_ _))
      rintro e w8 ⟨rfl, hb8⟩
      have hBf := bthen hB3 (bthen (show Below w3.heap.size w3 _ by repeat (first | exact Below.refl _ _ | exact hk7 | refine Below.drew ?_ | refine below_drewN ?_ _ | refine bset ?_ (by simp <;> omega) _ | refine bal ?_ _)) hb8)
      go_wp2
      go_ret
      exact ⟨rfl, by repeat (first | exact Below.refl _ _ | exact hBf | refine Below.drew ?_ | refine below_drewN ?_ _ | refine bset ?_ (by simp <;> omega) _ | refine bal ?_ _)⟩
    · obtain rfl : v = false := HV.out.no2 h2
      have hI : (k2 == k4) = false := by simpa using h2
      clear h2
      have hBy := Below.refl w3.heap.size w3
      go_wp2_with fail
      (with_reducible refine (S12.out _ ?_).mono ?_); (repeat (first | exact Below.refl _ _ | exact hk | refine Below.drew ?_ | refine below_drewN ?_ _ | refine bset ?_ (by simp <;> omega) _ | refine bal ?_ _))
      rintro e w6 ⟨rfl, hb6⟩
      have hk6 : Below w3.heap.size w3 w6 := bthen (by repeat (first | exact Below.refl _ _ | exact hk | refine Below.drew ?_ | refine below_drewN ?_ _ | refine bset ?_ (by simp <;> omega) _ | refine bal ?_ _)) hb6
      clear hb6 hBy
      go_wp2_with fail
      (with_reducible refine (S21.out _ ?_).mono ?_); (repeat (first | exact Below.refl _ _ | exact hk6 | refine Below.drew ?_ | refine below_drewN ?_ _ | refine bset ?_ (by simp <;> omega) _ | refine bal ?_ _))
      rintro e w7 ⟨rfl, hb7⟩
      have hk7 : Below w3.heap.size w3 w7 := bthen (by repeat (first | exact Below.refl _ _ | exact hk6 | refine Below.drew ?_ | refine below_drewN ?_ _ | refine bset ?_ (by simp <;> omega) _ | refine bal ?_ _)) hb7
      clear hb7
      go_wp2_with fail
      (with_reducible refine (S11.out _ ?_).mono ?_); (repeat (first | exact Below.refl _ _ | exact hk7 | refine Below.drew ?_ | refine below_drewN ?_ _ | refine bset ?_ (by simp <;> omega) _ | refine bal ?_ _))
      rintro e w8 ⟨rfl, hb8⟩
      have hBf := bthen hB3 (bthen (show Below w3.heap.size w3 _ by repeat (first | exact Below.refl _ _ | exact hk7 | refine Below.drew ?_ | refine below_drewN ?_ _ | refine bset ?_ (by simp <;> omega) _ | refine bal ?_ _)) hb8)
      go_wp2
      go_ret
      exact ⟨rfl, by repeat (first | exact Below.refl _ _ | exact hBf | refine Below.drew ?_ | refine below_drewN ?_ _ | refine bset ?_ (by simp <;> omega) _ | refine bal ?_ _)⟩
  · obtain rfl : v = false := HV.out.no1 h1
    have hI : (k1 == k3) = false := by simpa using h1
    clear h1
    have hBy := Below.refl w3.heap.size w3
    go_wp2_with fail
    (with_reducible refine (S12.out _ ?_).mono ?_); (repeat (first | exact Below.refl _ _ | exact hk | refine Below.drew ?_ | refine below_drewN ?_ _ | refine bset ?_ (by simp <;> omega) _ | refine bal ?_ _))
    rintro e w6 ⟨rfl, hb6⟩
    have hk6 : Below w3.heap.size w3 w6 := bthen (by repeat (first | exact Below.refl _ _ | exact hk | refine Below.drew ?_ | refine below_drewN ?_ _ | refine bset ?_ (by simp <;> omega) _ | refine bal ?_ _)) hb6
    clear hb6 hBy
    go_wp2_with fail
    (with_reducible refine (S21.out _ ?_).mono ?_); (repeat (first | exact Below.refl _ _ | exact hk6 | refine Below.drew ?_ | refine below_drewN ?_ _ | refine bset ?_ (by simp <;> omega) _ | refine bal ?_ _))
    rintro e w7 ⟨rfl, hb7⟩
    have hk7 : Below w3.heap.size w3 w7 := bthen (by repeat (first | exact Below.refl _ _ | exact hk6 | refine Below.drew ?_ | refine below_drewN ?_ _ | refine bset ?_ (by simp <;> omega) _ | refine bal ?_ _)) hb7
    clear hb7
    go_wp2_with fail
    (with_reducible refine (S11.out _ ?_).mono ?_); (repeat (first | exact Below.refl _ _ | exact hk7 | refine Below.drew ?_ | refine below_drewN ?_ _ | refine bset ?_ (by simp <;> omega) _ | refine bal ?_ _))
    rintro e w8 ⟨rfl, hb8⟩
    have hBf := bthen hB3 (bthen (show Below w3.heap.size w3 _ by repeat (first | exact Below.refl _ _ | exact hk7 | refine Below.drew ?_ | refine below_drewN ?_ _ | refine bset ?_ (by simp <;> omega) _ | refine bal ?_ _)) hb8)
    go_wp2
    go_ret
    exact ⟨rfl, by repeat (first | exact Below.refl _ _ | exact hBf | refine Below.drew ?_ | refine below_drewN ?_ _ | refine bset ?_ (by simp <;> omega) _ | refine bal ?_ _)⟩
theorem schemeSames_u (k1 k2 : Int) (pa : Option Addr) (n cap : Nat) (f : Nat → Int × Int) (k3 k4 : Int) (qa : Option Addr) (m cup : Nat) (g : Nat → Int × Int) (w : World) (h1 : (Lit.int .i64 k1).wf = true) (h2 : (Lit.int .i64 k2).wf = true) (hn : n * 16 ≤ 140737488355328) (h : PtsV w pa n cap f) (hi : ∀ k, k < n → I64 (f k).1 ∧ I64 (f k).2) (h3 : (Lit.int .i64 k3).wf = true) (h4 : (Lit.int .i64 k4).wf = true) (hm : m * 16 ≤ 140737488355328) (h' : PtsV w qa m cup g) (hi' : ∀ k, k < m → I64 (g k).1 ∧ I64 (g k).2) :
    Calls Tryd.prog 3 #[.int .i64 k1, .int .i64 k2, .slice pa n cap, .int .i64 k3, .int .i64 k4, .slice qa m cup] w fun e w' => e = .returned (.bool true) ∧ Below w.heap.size w w' :=
  schemeSames_h k1 k2 pa n cap f k3 k4 qa m cup g w h (by omega) h' (by omega)
end Go.Proofs.YtkejdmdldhlkgaaDoor

