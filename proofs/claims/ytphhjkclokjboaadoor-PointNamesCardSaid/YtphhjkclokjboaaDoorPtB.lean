/- The small functions of point and of its reference, next: In, None, norm, Norm, One, Det on both sides. -/
import Derived.Test.YtphhjkclokjboaaDoorPtA
namespace Go.Proofs.YtphhjkclokjboaaDoor
open Pt
open Go.ChangeShapes Go.WideShapes Go.ChangeAt Go.RowKit
set_option linter.unusedVariables false
set_option linter.unusedSimpArgs false

/-- a point as a value -/
abbrev pv (a b : Int) : Value := .agg #[.int .i64 a, .int .i64 b]

theorem ptIn_c (a b : Int) (w : World) :
    Calls Tryd.prog 20 #[pv a b] w fun e w' => e = .returned (.bool (inB a b)) ∧ Below w.heap.size w w' := by
  rw [inB_wi]
  by_cases h1 : wi a = true
  · rw [h1, Bool.true_and]
    have wc : ∀ w, Calls Tryd.prog 34 #[.int .i64 a] w fun e w' => e = .returned (.bool true) ∧ w = w' := fun w => by rw [← h1]; exact within_c a w
    clear h1
    go_enter Tryd.func20, Tryd.ntmps20
    go_wp2_with (go_at_call 34; refine (wc _).mono ?_; clear wc; rintro e w' ⟨rfl, rfl⟩)
    go_wp2_with (go_at_call 34; refine (within_c b _).mono ?_; rintro e w' ⟨rfl, rfl⟩)
    go_ret
    exact ⟨rfl, by repeat (first | exact Below.refl _ _ | assumption | refine bal ?_ _)⟩
  · replace h1 : wi a = false := by simpa using h1
    rw [h1, Bool.false_and]
    have wc : ∀ w, Calls Tryd.prog 34 #[.int .i64 a] w fun e w' => e = .returned (.bool false) ∧ w = w' := fun w => by rw [← h1]; exact within_c a w
    clear h1
    go_enter Tryd.func20, Tryd.ntmps20
    go_wp2_with (go_at_call 34; refine (wc _).mono ?_; clear wc; rintro e w' ⟨rfl, rfl⟩)
    go_ret
    exact ⟨rfl, by repeat (first | exact Below.refl _ _ | assumption | refine bal ?_ _)⟩

theorem refNone_c (a b : Int) (w : World) :
    Calls Tryd.prog 51 #[pv a b] w fun e w' => e = .returned (.bool (nn a b)) ∧ Below w.heap.size w w' := by
  go_enter Tryd.func51, Tryd.ntmps51
  go_wp2
  all_goals go_ret
  all_goals exact ⟨ret_bool (by rw [Bool.eq_iff_iff]; simp [nn] <;> omega), by repeat (first | exact Below.refl _ _ | assumption | refine bal ?_ _)⟩
/-- a point's norm as a value -/
def nv (a b : Int) : Value := pv (nrm a b).1 (nrm a b).2
theorem nv0 {a b : Int} (h : (Int.gcd a b : Int) = 0) : nv a b = pv a b := by simp [nv, nrm, h]
theorem nv1 {a b : Int} (h : (Int.gcd a b : Int) ≠ 0) (h1 : b < 0 ∨ (b = 0 ∧ a < 0)) : nv a b = pv (a.tdiv (-(Int.gcd a b : Int))) (b.tdiv (-(Int.gcd a b : Int))) := by
  unfold nv nrm; rw [if_neg h, if_pos h1]
theorem nv2 {a b : Int} (h : (Int.gcd a b : Int) ≠ 0) (h1 : ¬ (b < 0 ∨ (b = 0 ∧ a < 0))) : nv a b = pv (a.tdiv (Int.gcd a b : Int)) (b.tdiv (Int.gcd a b : Int)) := by
  unfold nv nrm; rw [if_neg h, if_neg h1]

theorem tdiv_bd (a g : Int) : (a.tdiv g).natAbs ≤ a.natAbs := by
  rw [Int.natAbs_tdiv]; exact Nat.div_le_self _ _
theorem w64 (x : Int) (h1 : -1000000 ≤ x) (h2 : x ≤ 1000000) : wrap64 x = x := by unfold wrap64; omega
theorem tdq2 (a g : Int) (h : 0 ≤ a) (h2 : a ≤ 16) : wrap64 (a / g) = a.tdiv g := by
  have := tdiv_bd a g
  rw [← Int.tdiv_eq_ediv_of_nonneg h]
  exact w64 _ (by omega) (by omega)
theorem tdq3 (a g : Int) (h : 0 ≤ a) (h2 : a ≤ 16) : wrap64 (a / g) = a / g := by
  have := tdq2 a g h h2
  rw [Int.tdiv_eq_ediv_of_nonneg h] at this; exact this
theorem tdq4 (a g : Int) (h : 0 ≤ a) (h2 : a ≤ 16) : wrap64 (a.tdiv g) = a / g := by
  rw [Int.tdiv_eq_ediv_of_nonneg h]; exact tdq3 a g h h2
theorem tdq (a g : Int) (h1 : -16 ≤ a) (h2 : a ≤ 16) : wrap64 (-a.tdiv g) = -a.tdiv g ∧ wrap64 (a.tdiv g) = a.tdiv g ∧ (0 ≤ a → wrap64 (a / g) = a / g) := by
  have := tdiv_bd a g
  refine ⟨w64 _ (by omega) (by omega), w64 _ (by omega) (by omega), fun h => ?_⟩
  rw [← Int.tdiv_eq_ediv_of_nonneg h]
  exact w64 _ (by omega) (by omega)

set_option linter.unusedSimpArgs false in
set_option maxRecDepth 100000 in
set_option maxHeartbeats 400000 in
theorem norm_c (a b : Int) (w : World) (h : PIn a b) :
    Calls Tryd.prog 21 #[pv a b] w fun e w' => e = .returned (nv a b) ∧ Below w.heap.size w w' := by
  have hg := gcd_bd a b h
  obtain ⟨h1, h2, h3, h4⟩ := h
  have cc : ∀ w, Calls Tryd.prog 29 #[.int .i64 a, .int .i64 b] w fun e w' => e = .returned (.int .i64 (Int.gcd a b)) ∧ Below w.heap.size w w' := fun w => common_c a b w (by omega) (by omega) (by omega) (by omega)
  have e0 := @nv0 a b
  have e1 := @nv1 a b
  have e2 := @nv2 a b
  have hg0 : (0 : Int) ≤ (Int.gcd a b : Int) := by omega
  generalize (Int.gcd a b : Int) = g at *
  generalize nv a b = nvv at *
  by_cases hz : g = 0
  · have E0 := Lib.hid (e0 hz)
    subst hz
    clear e0 e1 e2
    go_enter Tryd.func21, Tryd.ntmps21
    go_wp2_with fail
    refine (cc _).mono ?_
    rintro e w1 ⟨rfl, hb⟩
    obtain ⟨hc, hf⟩ := bcell hb
    have hs := hb.size
    simp at hs
    clear cc
    go_wp2
    refine bodyPost_ret (v := pv a b) (by simp [results, Tryd.results21, go_sem, hc]) rfl ⟨by rw [E0.out], ?_⟩
    repeat (first | exact Below.refl _ _ | exact bthen (bal (bal (Below.refl _ _) _) _) hb | refine bset ?_ (by simp) _ | refine bal ?_ _)
  · clear e0
    by_cases hn : b < 0 ∨ (b = 0 ∧ a < 0)
    · have E1 := Lib.hid (e1 hz hn)
      clear e1 e2
      go_enter Tryd.func21, Tryd.ntmps21
      go_wp2_with fail
      refine (cc _).mono ?_
      rintro e w1 ⟨rfl, hb⟩
      obtain ⟨hc, hf⟩ := bcell hb
      have hs := hb.size
      simp at hs
      clear cc
      go_wp2
      all_goals go_region
      all_goals go_wp2
      all_goals refine bodyPost_ret (v := pv (a.tdiv (-g)) (b.tdiv (-g))) (by simp [results, Tryd.results21, go_sem, hc] <;> (try constructor) <;> first | exact (tdq _ _ h1 h2).1 | exact (tdq _ _ h1 h2).2.1 | exact (tdq _ _ h3 h4).1 | exact (tdq _ _ h3 h4).2.1 | exact tdq2 _ _ (by omega) (by omega) | exact tdq3 _ _ (by omega) (by omega) | exact tdq4 _ _ (by omega) (by omega) | (simp_all; done) | exact (Int.tdiv_eq_ediv_of_nonneg (by omega)).symm | (exfalso; omega)) rfl ⟨by rw [E1.out], ?_⟩
      all_goals repeat (first | exact Below.refl _ _ | exact bthen (bal (bal (Below.refl _ _) _) _) hb | refine Below.drew ?_ | refine bset ?_ (by simp) _ | refine bal ?_ _)
    · have E1 := Lib.hid (e2 hz hn)
      clear e1 e2
      go_enter Tryd.func21, Tryd.ntmps21
      go_wp2_with fail
      refine (cc _).mono ?_
      rintro e w1 ⟨rfl, hb⟩
      obtain ⟨hc, hf⟩ := bcell hb
      have hs := hb.size
      simp at hs
      clear cc
      go_wp2
      all_goals go_region
      all_goals go_wp2
      all_goals refine bodyPost_ret (v := pv (a.tdiv (g)) (b.tdiv (g))) (by simp [results, Tryd.results21, go_sem, hc] <;> (try constructor) <;> first | exact (tdq _ _ h1 h2).1 | exact (tdq _ _ h1 h2).2.1 | exact (tdq _ _ h3 h4).1 | exact (tdq _ _ h3 h4).2.1 | exact tdq2 _ _ (by omega) (by omega) | exact tdq3 _ _ (by omega) (by omega) | exact tdq4 _ _ (by omega) (by omega) | (simp_all; done) | exact (Int.tdiv_eq_ediv_of_nonneg (by omega)).symm | (exfalso; omega)) rfl ⟨by rw [E1.out], ?_⟩
      all_goals repeat (first | exact Below.refl _ _ | exact bthen (bal (bal (Below.refl _ _) _) _) hb | refine Below.drew ?_ | refine bset ?_ (by simp) _ | refine bal ?_ _)
end Go.Proofs.YtphhjkclokjboaaDoor
