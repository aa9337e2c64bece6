/- Bezout, on both sides, and the law. -/
import Derived.Test.YtefoljempkpmgaaPtE
import Derived.Test.YtefoljempkpmgaaPtBezLaw
namespace Go.Proofs.Ytefoljempkpmgaa
open Pt
open Go.ChangeShapes Go.WideShapes Go.ChangeAt Go.RowKit
set_option linter.unusedVariables false
set_option linter.unusedSimpArgs false

theorem ptBez_no (a b : Int) (w : World) (h : ¬ PIn a b) :
    Calls Try.prog 21 #[pv a b] w fun e w' => e = .returned (.tuple #[.int .i64 0, .int .i64 0, .int .i64 0, .int .i64 2]) ∧ Below w.heap.size w w' := by
  have hi := inB_no h
  have cc : ∀ w, Calls Try.prog 10 #[pv a b] w fun e w' => e = .returned (.bool false) ∧ Below w.heap.size w w' := fun w => by rw [← hi]; exact ptIn_c a b w
  clear hi h
  go_enter Try.func21, Try.ntmps21
  go_wp2_with fail
  refine (common_any _ _ _).mono ?_
  rintro e w1 ⟨⟨g, rfl⟩, hb1⟩
  have g0 : w1.cell? ⟨w.heap.size, 0, none⟩ = some (.int .i64 a) := bkeep hb1 (by first | assumption | exact cell_new (by with_reducible first | rfl | (simp; done) | (simp; omega)) rfl | (repeat (first | assumption | exact cell_new (by with_reducible first | rfl | (simp; done) | (simp; omega)) rfl | refine cell_alloc ?_ _ | refine cell_drew ?_ | refine cell_drewN ?_ _ | refine cell_far ?_ (by simp) _ | (refine cell_far ?_ (by simp <;> omega) _))) | simp [go_sem, *])
  have zg0 := cell_lt g0
  have g1 : w1.cell? ⟨w.heap.size, 1, none⟩ = some (.int .i64 b) := bkeep hb1 (by first | assumption | exact cell_new (by with_reducible first | rfl | (simp; done) | (simp; omega)) rfl | (repeat (first | assumption | exact cell_new (by with_reducible first | rfl | (simp; done) | (simp; omega)) rfl | refine cell_alloc ?_ _ | refine cell_drew ?_ | refine cell_drewN ?_ _ | refine cell_far ?_ (by simp) _ | (refine cell_far ?_ (by simp <;> omega) _))) | simp [go_sem, *])
  have hB : Below w.heap.size w w1 := bthen (by repeat (first | exact Below.refl _ _ | exact hB | refine Below.drew ?_ | refine below_drewN ?_ _ | refine bset ?_ (by simp <;> omega) _ | refine bal ?_ _)) hb1
  have hz : w.heap.size ≤ w1.heap.size := hB.size
  clear hb1
  go_wp2_with fail
  refine (cc _).mono ?_
  rintro e w2 ⟨rfl, hb2⟩
  have g0 : w2.cell? ⟨w.heap.size, 0, none⟩ = some (.int .i64 a) := bkeep hb2 (by first | assumption | exact cell_new (by with_reducible first | rfl | (simp; done) | (simp; omega)) rfl | (repeat (first | assumption | exact cell_new (by with_reducible first | rfl | (simp; done) | (simp; omega)) rfl | refine cell_alloc ?_ _ | refine cell_drew ?_ | refine cell_drewN ?_ _ | refine cell_far ?_ (by simp) _ | (refine cell_far ?_ (by simp <;> omega) _))) | simp [go_sem, *])
  have zg0 := cell_lt g0
  have g1 : w2.cell? ⟨w.heap.size, 1, none⟩ = some (.int .i64 b) := bkeep hb2 (by first | assumption | exact cell_new (by with_reducible first | rfl | (simp; done) | (simp; omega)) rfl | (repeat (first | assumption | exact cell_new (by with_reducible first | rfl | (simp; done) | (simp; omega)) rfl | refine cell_alloc ?_ _ | refine cell_drew ?_ | refine cell_drewN ?_ _ | refine cell_far ?_ (by simp) _ | (refine cell_far ?_ (by simp <;> omega) _))) | simp [go_sem, *])
  have hB : Below w.heap.size w w2 := bthen (by repeat (first | exact Below.refl _ _ | exact hB | refine Below.drew ?_ | refine below_drewN ?_ _ | refine bset ?_ (by simp <;> omega) _ | refine bal ?_ _)) hb2
  have hz : w.heap.size ≤ w2.heap.size := hB.size
  clear hb2
  go_wp2
  exact bodyPost_ret (v := .tuple #[.int .i64 0, .int .i64 0, .int .i64 0, .int .i64 2]) (by simp [results, Try.results21, go_sem]) rfl ⟨rfl, hB⟩

theorem ptBez_00 (w : World) :
    Calls Try.prog 21 #[pv 0 0] w fun e w' => e = .returned (.tuple #[.int .i64 0, .int .i64 0, .int .i64 0, .int .i64 0]) ∧ Below w.heap.size w w' := by
  have cc : ∀ w, Calls Try.prog 10 #[pv 0 0] w fun e w' => e = .returned (.bool true) ∧ Below w.heap.size w w' := fun w => ptIn_c 0 0 w
  have gc : ∀ w, Calls Try.prog 35 #[.int .i64 0, .int .i64 0] w fun e w' => e = .returned (.int .i64 0) ∧ Below w.heap.size w w' := fun w => common_c 0 0 w (by omega) (by omega) (by omega) (by omega)
  go_enter Try.func21, Try.ntmps21
  go_wp2_with fail
  refine (gc _).mono ?_
  rintro e w1 ⟨rfl, hb1⟩
  have g0 : w1.cell? ⟨w.heap.size, 0, none⟩ = some (.int .i64 0) := bkeep hb1 (by first | assumption | exact cell_new (by with_reducible first | rfl | (simp; done) | (simp; omega)) rfl | (repeat (first | assumption | exact cell_new (by with_reducible first | rfl | (simp; done) | (simp; omega)) rfl | refine cell_alloc ?_ _ | refine cell_drew ?_ | refine cell_drewN ?_ _ | refine cell_far ?_ (by simp) _ | (refine cell_far ?_ (by simp <;> omega) _))) | simp [go_sem, *])
  have zg0 := cell_lt g0
  have g1 : w1.cell? ⟨w.heap.size, 1, none⟩ = some (.int .i64 0) := bkeep hb1 (by first | assumption | exact cell_new (by with_reducible first | rfl | (simp; done) | (simp; omega)) rfl | (repeat (first | assumption | exact cell_new (by with_reducible first | rfl | (simp; done) | (simp; omega)) rfl | refine cell_alloc ?_ _ | refine cell_drew ?_ | refine cell_drewN ?_ _ | refine cell_far ?_ (by simp) _ | (refine cell_far ?_ (by simp <;> omega) _))) | simp [go_sem, *])
  have hB : Below w.heap.size w w1 := bthen (by repeat (first | exact Below.refl _ _ | exact hB | refine Below.drew ?_ | refine below_drewN ?_ _ | refine bset ?_ (by simp <;> omega) _ | refine bal ?_ _)) hb1
  have hz : w.heap.size ≤ w1.heap.size := hB.size
  clear hb1
  go_wp2_with fail
  refine (cc _).mono ?_
  rintro e w2 ⟨rfl, hb2⟩
  have g0 : w2.cell? ⟨w.heap.size, 0, none⟩ = some (.int .i64 0) := bkeep hb2 (by first | assumption | exact cell_new (by with_reducible first | rfl | (simp; done) | (simp; omega)) rfl | (repeat (first | assumption | exact cell_new (by with_reducible first | rfl | (simp; done) | (simp; omega)) rfl | refine cell_alloc ?_ _ | refine cell_drew ?_ | refine cell_drewN ?_ _ | refine cell_far ?_ (by simp) _ | (refine cell_far ?_ (by simp <;> omega) _))) | simp [go_sem, *])
  have zg0 := cell_lt g0
  have g1 : w2.cell? ⟨w.heap.size, 1, none⟩ = some (.int .i64 0) := bkeep hb2 (by first | assumption | exact cell_new (by with_reducible first | rfl | (simp; done) | (simp; omega)) rfl | (repeat (first | assumption | exact cell_new (by with_reducible first | rfl | (simp; done) | (simp; omega)) rfl | refine cell_alloc ?_ _ | refine cell_drew ?_ | refine cell_drewN ?_ _ | refine cell_far ?_ (by simp) _ | (refine cell_far ?_ (by simp <;> omega) _))) | simp [go_sem, *])
  have hB : Below w.heap.size w w2 := bthen (by repeat (first | exact Below.refl _ _ | exact hB | refine Below.drew ?_ | refine below_drewN ?_ _ | refine bset ?_ (by simp <;> omega) _ | refine bal ?_ _)) hb2
  have hz : w.heap.size ≤ w2.heap.size := hB.size
  clear hb2
  go_wp2
  exact bodyPost_ret (v := .tuple #[.int .i64 0, .int .i64 0, .int .i64 0, .int .i64 0]) (by simp [results, Try.results21, go_sem]) rfl ⟨rfl, hB⟩

theorem ptBez_0 (a : Int) (w : World) (h : PIn a 0) (ha : a ≠ 0) :
    Calls Try.prog 21 #[pv a 0] w fun e w' => e = .returned (.tuple #[.int .i64 (Int.gcd a 0), .int .i64 (a.tdiv (Int.gcd a 0)), .int .i64 0, .int .i64 0]) ∧ Below w.heap.size w w' := by
  have hi := inB_yes h
  have cc : ∀ w, Calls Try.prog 10 #[pv a 0] w fun e w' => e = .returned (.bool true) ∧ Below w.heap.size w w' := fun w => by rw [← hi]; exact ptIn_c a 0 w
  have hg := gcd_bd a 0 h
  obtain ⟨h1, h2, h3, h4⟩ := h
  have gc : ∀ w, Calls Try.prog 35 #[.int .i64 a, .int .i64 0] w fun e w' => e = .returned (.int .i64 (Int.gcd a 0)) ∧ Below w.heap.size w w' := fun w => common_c a 0 w (by omega) (by omega) (by omega) (by omega)
  have hz := gcd_zero_iff a 0
  have hg0 : (0 : Int) ≤ (Int.gcd a 0 : Int) := by omega
  generalize (Int.gcd a 0 : Int) = g at *
  have hg1 : ¬ g = 0 := fun e => ha (hz.1 e).1
  have hgb : (g == 0) = false := by simpa using hg1
  have hq := Lib.hid (tdq a g h1 h2)
  have hq2 := tdiv_bd a g
  clear hz hi h3 h4
  go_enter Try.func21, Try.ntmps21
  go_wp2_with fail
  refine (gc _).mono ?_
  rintro e w1 ⟨rfl, hb1⟩
  have g0 : w1.cell? ⟨w.heap.size, 0, none⟩ = some (.int .i64 a) := bkeep hb1 (by first | assumption | exact cell_new (by with_reducible first | rfl | (simp; done) | (simp; omega)) rfl | (repeat (first | assumption | exact cell_new (by with_reducible first | rfl | (simp; done) | (simp; omega)) rfl | refine cell_alloc ?_ _ | refine cell_drew ?_ | refine cell_drewN ?_ _ | refine cell_far ?_ (by simp) _ | (refine cell_far ?_ (by simp <;> omega) _))) | simp [go_sem, *])
  have zg0 := cell_lt g0
  have g1 : w1.cell? ⟨w.heap.size, 1, none⟩ = some (.int .i64 0) := bkeep hb1 (by first | assumption | exact cell_new (by with_reducible first | rfl | (simp; done) | (simp; omega)) rfl | (repeat (first | assumption | exact cell_new (by with_reducible first | rfl | (simp; done) | (simp; omega)) rfl | refine cell_alloc ?_ _ | refine cell_drew ?_ | refine cell_drewN ?_ _ | refine cell_far ?_ (by simp) _ | (refine cell_far ?_ (by simp <;> omega) _))) | simp [go_sem, *])
  have hB : Below w.heap.size w w1 := bthen (by repeat (first | exact Below.refl _ _ | exact hB | refine Below.drew ?_ | refine below_drewN ?_ _ | refine bset ?_ (by simp <;> omega) _ | refine bal ?_ _)) hb1
  have hz : w.heap.size ≤ w1.heap.size := hB.size
  clear hb1
  go_wp2_with fail
  refine (cc _).mono ?_
  rintro e w2 ⟨rfl, hb2⟩
  have g0 : w2.cell? ⟨w.heap.size, 0, none⟩ = some (.int .i64 a) := bkeep hb2 (by first | assumption | exact cell_new (by with_reducible first | rfl | (simp; done) | (simp; omega)) rfl | (repeat (first | assumption | exact cell_new (by with_reducible first | rfl | (simp; done) | (simp; omega)) rfl | refine cell_alloc ?_ _ | refine cell_drew ?_ | refine cell_drewN ?_ _ | refine cell_far ?_ (by simp) _ | (refine cell_far ?_ (by simp <;> omega) _))) | simp [go_sem, *])
  have zg0 := cell_lt g0
  have g1 : w2.cell? ⟨w.heap.size, 1, none⟩ = some (.int .i64 0) := bkeep hb2 (by first | assumption | exact cell_new (by with_reducible first | rfl | (simp; done) | (simp; omega)) rfl | (repeat (first | assumption | exact cell_new (by with_reducible first | rfl | (simp; done) | (simp; omega)) rfl | refine cell_alloc ?_ _ | refine cell_drew ?_ | refine cell_drewN ?_ _ | refine cell_far ?_ (by simp) _ | (refine cell_far ?_ (by simp <;> omega) _))) | simp [go_sem, *])
  have hB : Below w.heap.size w w2 := bthen (by repeat (first | exact Below.refl _ _ | exact hB | refine Below.drew ?_ | refine below_drewN ?_ _ | refine bset ?_ (by simp <;> omega) _ | refine bal ?_ _)) hb2
  have hz : w.heap.size ≤ w2.heap.size := hB.size
  clear hb2
  go_wp2_with fail
  refine wp_name fun w3 hW3 => ?_
  have g0 : w3.cell? ⟨w.heap.size, 0, none⟩ = some (.int .i64 a) := by rw [hW3]; exact (by first | assumption | exact cell_new (by with_reducible first | rfl | (simp; done) | (simp; omega)) rfl | (repeat (first | assumption | exact cell_new (by with_reducible first | rfl | (simp; done) | (simp; omega)) rfl | refine cell_alloc ?_ _ | refine cell_drew ?_ | refine cell_drewN ?_ _ | refine cell_far ?_ (by simp) _ | (refine cell_far ?_ (by simp <;> omega) _))) | simp [go_sem, *])
  have zg0 := cell_lt g0
  have g1 : w3.cell? ⟨w.heap.size, 1, none⟩ = some (.int .i64 0) := by rw [hW3]; exact (by first | assumption | exact cell_new (by with_reducible first | rfl | (simp; done) | (simp; omega)) rfl | (repeat (first | assumption | exact cell_new (by with_reducible first | rfl | (simp; done) | (simp; omega)) rfl | refine cell_alloc ?_ _ | refine cell_drew ?_ | refine cell_drewN ?_ _ | refine cell_far ?_ (by simp) _ | (refine cell_far ?_ (by simp <;> omega) _))) | simp [go_sem, *])
  have hB : Below w.heap.size w w3 := by rw [hW3]; repeat (first | exact Below.refl _ _ | exact hB | refine Below.drew ?_ | refine below_drewN ?_ _ | refine bset ?_ (by simp <;> omega) _ | refine bal ?_ _)
  have hz : w.heap.size ≤ w3.heap.size := hB.size
  clear hW3
  refine wp_region_grow (w := w3) (by kernel_rfl) (by kernel_rfl) ?_
  have g0g : ∀ s, (grow w3 s).cell? ⟨w.heap.size, 0, none⟩ = some (.int .i64 a) := fun s => bkeep s.below g0
  have g1g : ∀ s, (grow w3 s).cell? ⟨w.heap.size, 1, none⟩ = some (.int .i64 0) := fun s => bkeep s.below g1
  repeat (go_big_quiet_step (fail))
  refine wpQuiet_nil ?_
  intro w4 hb4
  clear g0g
  clear g1g
  have g0 : w4.cell? ⟨w.heap.size, 0, none⟩ = some (.int .i64 a) := bkeep hb4 (by first | assumption | exact cell_new (by with_reducible first | rfl | (simp; done) | (simp; omega)) rfl | (repeat (first | assumption | exact cell_new (by with_reducible first | rfl | (simp; done) | (simp; omega)) rfl | refine cell_alloc ?_ _ | refine cell_drew ?_ | refine cell_drewN ?_ _ | refine cell_far ?_ (by simp) _ | (refine cell_far ?_ (by simp <;> omega) _))) | simp [go_sem, *])
  have zg0 := cell_lt g0
  have g1 : w4.cell? ⟨w.heap.size, 1, none⟩ = some (.int .i64 0) := bkeep hb4 (by first | assumption | exact cell_new (by with_reducible first | rfl | (simp; done) | (simp; omega)) rfl | (repeat (first | assumption | exact cell_new (by with_reducible first | rfl | (simp; done) | (simp; omega)) rfl | refine cell_alloc ?_ _ | refine cell_drew ?_ | refine cell_drewN ?_ _ | refine cell_far ?_ (by simp) _ | (refine cell_far ?_ (by simp <;> omega) _))) | simp [go_sem, *])
  have hB : Below w.heap.size w w4 := bthen (by repeat (first | exact Below.refl _ _ | exact hB | refine Below.drew ?_ | refine below_drewN ?_ _ | refine bset ?_ (by simp <;> omega) _ | refine bal ?_ _)) hb4
  have hz : w.heap.size ≤ w4.heap.size := hB.size
  clear hb4
  go_wp2
  refine bodyPost_ret (v := .tuple #[.int .i64 g, .int .i64 (a.tdiv g), .int .i64 0, .int .i64 0]) ?_ rfl ⟨rfl, hB⟩
  simp [results, Try.results21, go_sem]
  first | done | exact hq.out.2.1 | exact tdq2 a g (by omega) h2 | exact tdq3 a g (by omega) h2 | exact tdq4 a g (by omega) h2

set_option maxHeartbeats 2000000 in
theorem ptBez_b (a b u v : Int) (w : World) (h : PIn a b) (hb0 : b ≠ 0) (hs : bz a b = some (u, v)) :
    Calls Try.prog 21 #[pv a b] w fun e w' => e = .returned (.tuple #[.int .i64 (Int.gcd a b), .int .i64 u, .int .i64 v, .int .i64 0]) ∧ Below w.heap.size w w' := by
  have hi := inB_yes h
  have cc : ∀ w, Calls Try.prog 10 #[pv a b] w fun e w' => e = .returned (.bool true) ∧ Below w.heap.size w w' := fun w => by rw [← hi]; exact ptIn_c a b w
  have hg := gcd_bd a b h
  obtain ⟨h1, h2, h3, h4⟩ := h
  have gc : ∀ w, Calls Try.prog 35 #[.int .i64 a, .int .i64 b] w fun e w' => e = .returned (.int .i64 (Int.gcd a b)) ∧ Below w.heap.size w w' := fun w => common_c a b w (by omega) (by omega) (by omega) (by omega)
  have hz := gcd_zero_iff a b
  have hg0 : (0 : Int) ≤ (Int.gcd a b : Int) := by omega
  have A0 := At.zero a b
  have A16 : ∀ k, At a b k → k ≤ 16 := fun k h => h.lt hs
  have AP : ∀ k, At a b k → ((Int.gcd a b : Int) - (k : Int) * a).tmod b = 0 → u = k ∧ v = ((Int.gcd a b : Int) - (k : Int) * a).tdiv b := fun k h => h.plus hs
  have AM : ∀ k, At a b k → ¬ ((Int.gcd a b : Int) - (k : Int) * a).tmod b = 0 → ((Int.gcd a b : Int) + (k : Int) * a).tmod b = 0 → u = -(k : Int) ∧ v = ((Int.gcd a b : Int) + (k : Int) * a).tdiv b := fun k h => h.minus hs
  have AN : ∀ k, At a b k → ¬ ((Int.gcd a b : Int) - (k : Int) * a).tmod b = 0 → ¬ ((Int.gcd a b : Int) + (k : Int) * a).tmod b = 0 → At a b (k + 1) := fun k h => h.next hs
  generalize (Int.gcd a b : Int) = g at *
  have hg1 : ¬ g = 0 := fun e => hb0 (hz.1 e).2
  have hgb : (g == 0) = false := by simpa using hg1
  have hbb : (b == 0) = false := by simpa using hb0
  have A16 := Lib.hid A16
  have AP := Lib.hid AP
  have AM := Lib.hid AM
  have AN := Lib.hid AN
  have A0 := Lib.hid A0
  clear hz hi hs
  go_enter Try.func21, Try.ntmps21
  go_wp2_with fail
  refine (gc _).mono ?_
  rintro e w1 ⟨rfl, hb1⟩
  have g0 : w1.cell? ⟨w.heap.size, 0, none⟩ = some (.int .i64 a) := bkeep hb1 (by first | assumption | exact cell_new (by with_reducible first | rfl | (simp; done) | (simp; omega)) rfl | (repeat (first | assumption | exact cell_new (by with_reducible first | rfl | (simp; done) | (simp; omega)) rfl | refine cell_alloc ?_ _ | refine cell_drew ?_ | refine cell_drewN ?_ _ | refine cell_far ?_ (by simp) _ | (refine cell_far ?_ (by simp <;> omega) _))) | simp [go_sem, *])
  have zg0 := cell_lt g0
  have g1 : w1.cell? ⟨w.heap.size, 1, none⟩ = some (.int .i64 b) := bkeep hb1 (by first | assumption | exact cell_new (by with_reducible first | rfl | (simp; done) | (simp; omega)) rfl | (repeat (first | assumption | exact cell_new (by with_reducible first | rfl | (simp; done) | (simp; omega)) rfl | refine cell_alloc ?_ _ | refine cell_drew ?_ | refine cell_drewN ?_ _ | refine cell_far ?_ (by simp) _ | (refine cell_far ?_ (by simp <;> omega) _))) | simp [go_sem, *])
  have hB : Below w.heap.size w w1 := bthen (by repeat (first | exact Below.refl _ _ | exact hB | refine Below.drew ?_ | refine below_drewN ?_ _ | refine bset ?_ (by simp <;> omega) _ | refine bal ?_ _)) hb1
  have hz : w.heap.size ≤ w1.heap.size := hB.size
  clear hb1
  go_wp2_with fail
  refine (cc _).mono ?_
  rintro e w2 ⟨rfl, hb2⟩
  have g0 : w2.cell? ⟨w.heap.size, 0, none⟩ = some (.int .i64 a) := bkeep hb2 (by first | assumption | exact cell_new (by with_reducible first | rfl | (simp; done) | (simp; omega)) rfl | (repeat (first | assumption | exact cell_new (by with_reducible first | rfl | (simp; done) | (simp; omega)) rfl | refine cell_alloc ?_ _ | refine cell_drew ?_ | refine cell_drewN ?_ _ | refine cell_far ?_ (by simp) _ | (refine cell_far ?_ (by simp <;> omega) _))) | simp [go_sem, *])
  have zg0 := cell_lt g0
  have g1 : w2.cell? ⟨w.heap.size, 1, none⟩ = some (.int .i64 b) := bkeep hb2 (by first | assumption | exact cell_new (by with_reducible first | rfl | (simp; done) | (simp; omega)) rfl | (repeat (first | assumption | exact cell_new (by with_reducible first | rfl | (simp; done) | (simp; omega)) rfl | refine cell_alloc ?_ _ | refine cell_drew ?_ | refine cell_drewN ?_ _ | refine cell_far ?_ (by simp) _ | (refine cell_far ?_ (by simp <;> omega) _))) | simp [go_sem, *])
  have hB : Below w.heap.size w w2 := bthen (by repeat (first | exact Below.refl _ _ | exact hB | refine Below.drew ?_ | refine below_drewN ?_ _ | refine bset ?_ (by simp <;> omega) _ | refine bal ?_ _)) hb2
  have hz : w.heap.size ≤ w2.heap.size := hB.size
  clear hb2
  go_wp2
  go_loopw [7] (fun x wr => ∃ k : Nat, x = .int .i64 k ∧ At a b k ∧ wr.cell? ⟨w.heap.size, 0, none⟩ = some (.int .i64 a) ∧ wr.cell? ⟨w.heap.size, 1, none⟩ = some (.int .i64 b) ∧ Below w.heap.size w wr) (fun x _ => 17 - (intOf x).toNat)
  case atStart => exact ⟨0, rfl, A0.out, g0, g1, hB⟩
  case round =>
    obtain ⟨k, rfl, hA, g0, g1, hB⟩ := hrel
    have hk := A16.out k hA
    have mb := mul_bd (k : Int) a (by omega) (by omega) h1 h2
    have i0 : ∀ w, (Instr.index 69 (.agg #[.int .i64 (k : Int), .int .i64 (-(k : Int))]) (.int .i64 0)).run Try.prog w = .ok (.int .i64 (k : Int)) w := fun _ => by kernel_rfl
    have i1 : ∀ w, (Instr.index 69 (.agg #[.int .i64 (k : Int), .int .i64 (-(k : Int))]) (.int .i64 1)).run Try.prog w = .ok (.int .i64 (-(k : Int))) w := fun _ => by kernel_rfl
    go_wp2
    refine wp_loop_rounds 3 ?_
    rw [rounds_succ]
    by_cases hp : (g - (k : Int) * a).tmod b = 0
    · obtain ⟨eu, ev⟩ := AP.out k hA hp
      have EU := Lib.hid eu
      have EV := Lib.hid ev
      clear eu ev
      have hq := tdiv_bd (g - (k : Int) * a) b
      have hw := w64 ((g - (k : Int) * a).tdiv b) (by omega) (by omega)
      have HW := Lib.hid hw; clear hw
      go_wp2
      refine wp_name fun w3 hW3 => ?_
      have g0 : w3.cell? ⟨w.heap.size, 0, none⟩ = some (.int .i64 a) := by rw [hW3]; exact (by first | assumption | exact cell_new (by with_reducible first | rfl | (simp; done) | (simp; omega)) rfl | (repeat (first | assumption | exact cell_new (by with_reducible first | rfl | (simp; done) | (simp; omega)) rfl | refine cell_alloc ?_ _ | refine cell_drew ?_ | refine cell_drewN ?_ _ | refine cell_far ?_ (by simp) _ | (refine cell_far ?_ (by simp <;> omega) _))) | simp [go_sem, *])
      have zg0 := cell_lt g0
      have g1 : w3.cell? ⟨w.heap.size, 1, none⟩ = some (.int .i64 b) := by rw [hW3]; exact (by first | assumption | exact cell_new (by with_reducible first | rfl | (simp; done) | (simp; omega)) rfl | (repeat (first | assumption | exact cell_new (by with_reducible first | rfl | (simp; done) | (simp; omega)) rfl | refine cell_alloc ?_ _ | refine cell_drew ?_ | refine cell_drewN ?_ _ | refine cell_far ?_ (by simp) _ | (refine cell_far ?_ (by simp <;> omega) _))) | simp [go_sem, *])
      have hB : Below w.heap.size w w3 := by rw [hW3]; repeat (first | exact Below.refl _ _ | exact hB | refine Below.drew ?_ | refine below_drewN ?_ _ | refine bset ?_ (by simp <;> omega) _ | refine bal ?_ _)
      have hz : w.heap.size ≤ w3.heap.size := hB.size
      clear hW3
      refine wp_region_grow (w := w3) (by kernel_rfl) (by kernel_rfl) ?_
      have g0g : ∀ s, (grow w3 s).cell? ⟨w.heap.size, 0, none⟩ = some (.int .i64 a) := fun s => bkeep s.below g0
      have g1g : ∀ s, (grow w3 s).cell? ⟨w.heap.size, 1, none⟩ = some (.int .i64 b) := fun s => bkeep s.below g1
      repeat (go_big_quiet_step (fail))
      refine wpQuiet_nil ?_
      intro w4 hb4
      clear g0g
      clear g1g
      have g0 : w4.cell? ⟨w.heap.size, 0, none⟩ = some (.int .i64 a) := bkeep hb4 (by first | assumption | exact cell_new (by with_reducible first | rfl | (simp; done) | (simp; omega)) rfl | (repeat (first | assumption | exact cell_new (by with_reducible first | rfl | (simp; done) | (simp; omega)) rfl | refine cell_alloc ?_ _ | refine cell_drew ?_ | refine cell_drewN ?_ _ | refine cell_far ?_ (by simp) _ | (refine cell_far ?_ (by simp <;> omega) _))) | simp [go_sem, *])
      have zg0 := cell_lt g0
      have g1 : w4.cell? ⟨w.heap.size, 1, none⟩ = some (.int .i64 b) := bkeep hb4 (by first | assumption | exact cell_new (by with_reducible first | rfl | (simp; done) | (simp; omega)) rfl | (repeat (first | assumption | exact cell_new (by with_reducible first | rfl | (simp; done) | (simp; omega)) rfl | refine cell_alloc ?_ _ | refine cell_drew ?_ | refine cell_drewN ?_ _ | refine cell_far ?_ (by simp) _ | (refine cell_far ?_ (by simp <;> omega) _))) | simp [go_sem, *])
      have hB : Below w.heap.size w w4 := bthen (by repeat (first | exact Below.refl _ _ | exact hB | refine Below.drew ?_ | refine below_drewN ?_ _ | refine bset ?_ (by simp <;> omega) _ | refine bal ?_ _)) hb4
      have hz : w.heap.size ≤ w4.heap.size := hB.size
      clear hb4
      go_wp2
      refine bodyPost_ret (v := .tuple #[.int .i64 g, .int .i64 (k : Int), .int .i64 ((g - (k : Int) * a).tdiv b), .int .i64 0]) ?_ rfl ⟨by rw [EU.out, EV.out], hB⟩
      simp [results, Try.results21, go_sem]
      try exact HW.out
    · by_cases hm : (g + (k : Int) * a).tmod b = 0
      · obtain ⟨eu, ev⟩ := AM.out k hA hp hm
        have EU := Lib.hid eu
        have EV := Lib.hid ev
        clear eu ev
        have hq := tdiv_bd (g + (k : Int) * a) b
        have hw := w64 ((g + (k : Int) * a).tdiv b) (by omega) (by omega)
        have HW := Lib.hid hw; clear hw
        have hne : g - -(k : Int) * a = g + (k : Int) * a := by rw [Int.neg_mul]; omega
        have mc : -256 ≤ -(k : Int) * a ∧ -(k : Int) * a ≤ 256 := by rw [Int.neg_mul]; omega
        go_wp2
        rw [rounds_succ]
        go_wp2
        refine wp_name fun w3 hW3 => ?_
        have g0 : w3.cell? ⟨w.heap.size, 0, none⟩ = some (.int .i64 a) := by rw [hW3]; exact (by first | assumption | exact cell_new (by with_reducible first | rfl | (simp; done) | (simp; omega)) rfl | (repeat (first | assumption | exact cell_new (by with_reducible first | rfl | (simp; done) | (simp; omega)) rfl | refine cell_alloc ?_ _ | refine cell_drew ?_ | refine cell_drewN ?_ _ | refine cell_far ?_ (by simp) _ | (refine cell_far ?_ (by simp <;> omega) _))) | simp [go_sem, *])
        have zg0 := cell_lt g0
        have g1 : w3.cell? ⟨w.heap.size, 1, none⟩ = some (.int .i64 b) := by rw [hW3]; exact (by first | assumption | exact cell_new (by with_reducible first | rfl | (simp; done) | (simp; omega)) rfl | (repeat (first | assumption | exact cell_new (by with_reducible first | rfl | (simp; done) | (simp; omega)) rfl | refine cell_alloc ?_ _ | refine cell_drew ?_ | refine cell_drewN ?_ _ | refine cell_far ?_ (by simp) _ | (refine cell_far ?_ (by simp <;> omega) _))) | simp [go_sem, *])
        have hB : Below w.heap.size w w3 := by rw [hW3]; repeat (first | exact Below.refl _ _ | exact hB | refine Below.drew ?_ | refine below_drewN ?_ _ | refine bset ?_ (by simp <;> omega) _ | refine bal ?_ _)
        have hz : w.heap.size ≤ w3.heap.size := hB.size
        clear hW3
        refine wp_region_grow (w := w3) (by kernel_rfl) (by kernel_rfl) ?_
        have g0g : ∀ s, (grow w3 s).cell? ⟨w.heap.size, 0, none⟩ = some (.int .i64 a) := fun s => bkeep s.below g0
        have g1g : ∀ s, (grow w3 s).cell? ⟨w.heap.size, 1, none⟩ = some (.int .i64 b) := fun s => bkeep s.below g1
        repeat (go_big_quiet_step (fail))
        refine wpQuiet_nil ?_
        intro w4 hb4
        clear g0g
        clear g1g
        have g0 : w4.cell? ⟨w.heap.size, 0, none⟩ = some (.int .i64 a) := bkeep hb4 (by first | assumption | exact cell_new (by with_reducible first | rfl | (simp; done) | (simp; omega)) rfl | (repeat (first | assumption | exact cell_new (by with_reducible first | rfl | (simp; done) | (simp; omega)) rfl | refine cell_alloc ?_ _ | refine cell_drew ?_ | refine cell_drewN ?_ _ | refine cell_far ?_ (by simp) _ | (refine cell_far ?_ (by simp <;> omega) _))) | simp [go_sem, *])
        have zg0 := cell_lt g0
        have g1 : w4.cell? ⟨w.heap.size, 1, none⟩ = some (.int .i64 b) := bkeep hb4 (by first | assumption | exact cell_new (by with_reducible first | rfl | (simp; done) | (simp; omega)) rfl | (repeat (first | assumption | exact cell_new (by with_reducible first | rfl | (simp; done) | (simp; omega)) rfl | refine cell_alloc ?_ _ | refine cell_drew ?_ | refine cell_drewN ?_ _ | refine cell_far ?_ (by simp) _ | (refine cell_far ?_ (by simp <;> omega) _))) | simp [go_sem, *])
        have hB : Below w.heap.size w w4 := bthen (by repeat (first | exact Below.refl _ _ | exact hB | refine Below.drew ?_ | refine below_drewN ?_ _ | refine bset ?_ (by simp <;> omega) _ | refine bal ?_ _)) hb4
        have hz : w.heap.size ≤ w4.heap.size := hB.size
        clear hb4
        go_wp2
        refine bodyPost_ret (v := .tuple #[.int .i64 g, .int .i64 (-(k : Int)), .int .i64 ((g + (k : Int) * a).tdiv b), .int .i64 0]) ?_ rfl ⟨by rw [EU.out, EV.out], hB⟩
        simp [results, Try.results21, go_sem]
        try exact HW.out
      · have hn := AN.out k hA hp hm
        have hne : g - -(k : Int) * a = g + (k : Int) * a := by rw [Int.neg_mul]; omega
        have mc : -256 ≤ -(k : Int) * a ∧ -(k : Int) * a ≤ 256 := by rw [Int.neg_mul]; omega
        go_wp2
        rw [rounds_succ]
        go_wp2
        rw [rounds_succ]
        go_wp2
        exact ⟨⟨k + 1, by go_num, hn, g0, g1, hB⟩, by simp [intOf]; omega⟩

set_option maxHeartbeats 2000000 in
theorem refBez_b (a b u v : Int) (w : World) (h : PIn a b) (hb0 : b ≠ 0) (hs : bz a b = some (u, v)) :
    Calls Try.prog 22 #[pv a b] w fun e w' => e = .returned (.tuple #[.int .i64 (Int.gcd a b), .int .i64 u, .int .i64 v]) ∧ Below w.heap.size w w' := by
  have gc : ∀ w, Calls Try.prog 34 #[pv a b] w fun e w' => e = .returned (.int .i64 (Int.gcd a b)) ∧ Below w.heap.size w w' := fun w => by rw [← cm_gcd a b h]; exact refCommon_c a b w
  have hg := gcd_bd a b h
  obtain ⟨h1, h2, h3, h4⟩ := h
  have hz := gcd_zero_iff a b
  have hg0 : (0 : Int) ≤ (Int.gcd a b : Int) := by omega
  have A0 := At.zero a b
  have A16 : ∀ k, At a b k → k ≤ 16 := fun k h => h.lt hs
  have AP : ∀ k, At a b k → ((Int.gcd a b : Int) - (k : Int) * a).tmod b = 0 → u = k ∧ v = ((Int.gcd a b : Int) - (k : Int) * a).tdiv b := fun k h => h.plus hs
  have AM : ∀ k, At a b k → ¬ ((Int.gcd a b : Int) - (k : Int) * a).tmod b = 0 → ((Int.gcd a b : Int) + (k : Int) * a).tmod b = 0 → u = -(k : Int) ∧ v = ((Int.gcd a b : Int) + (k : Int) * a).tdiv b := fun k h => h.minus hs
  have AN : ∀ k, At a b k → ¬ ((Int.gcd a b : Int) - (k : Int) * a).tmod b = 0 → ¬ ((Int.gcd a b : Int) + (k : Int) * a).tmod b = 0 → At a b (k + 1) := fun k h => h.next hs
  generalize (Int.gcd a b : Int) = g at *
  have hg1 : ¬ g = 0 := fun e => hb0 (hz.1 e).2
  have hgb : (g == 0) = false := by simpa using hg1
  have hbb : (b == 0) = false := by simpa using hb0
  have A16 := Lib.hid A16
  have AP := Lib.hid AP
  have AM := Lib.hid AM
  have AN := Lib.hid AN
  have A0 := Lib.hid A0
  clear hz hs
  go_enter Try.func22, Try.ntmps22
  go_wp2_with fail
  refine (gc _).mono ?_
  rintro e w1 ⟨rfl, hb1⟩
  have g0 : w1.cell? ⟨w.heap.size, 0, none⟩ = some (.int .i64 a) := bkeep hb1 (by first | assumption | exact cell_new (by with_reducible first | rfl | (simp; done) | (simp; omega)) rfl | (repeat (first | assumption | exact cell_new (by with_reducible first | rfl | (simp; done) | (simp; omega)) rfl | refine cell_alloc ?_ _ | refine cell_drew ?_ | refine cell_drewN ?_ _ | refine cell_far ?_ (by simp) _ | (refine cell_far ?_ (by simp <;> omega) _))) | simp [go_sem, *])
  have zg0 := cell_lt g0
  have g1 : w1.cell? ⟨w.heap.size, 1, none⟩ = some (.int .i64 b) := bkeep hb1 (by first | assumption | exact cell_new (by with_reducible first | rfl | (simp; done) | (simp; omega)) rfl | (repeat (first | assumption | exact cell_new (by with_reducible first | rfl | (simp; done) | (simp; omega)) rfl | refine cell_alloc ?_ _ | refine cell_drew ?_ | refine cell_drewN ?_ _ | refine cell_far ?_ (by simp) _ | (refine cell_far ?_ (by simp <;> omega) _))) | simp [go_sem, *])
  have hB : Below w.heap.size w w1 := bthen (by repeat (first | exact Below.refl _ _ | exact hB | refine Below.drew ?_ | refine below_drewN ?_ _ | refine bset ?_ (by simp <;> omega) _ | refine bal ?_ _)) hb1
  have hz : w.heap.size ≤ w1.heap.size := hB.size
  clear hb1
  go_wp2
  go_loopw [6] (fun x wr => ∃ k : Nat, x = .int .i64 k ∧ At a b k ∧ wr.cell? ⟨w.heap.size, 0, none⟩ = some (.int .i64 a) ∧ wr.cell? ⟨w.heap.size, 1, none⟩ = some (.int .i64 b) ∧ Below w.heap.size w wr) (fun x _ => 17 - (intOf x).toNat)
  case atStart => exact ⟨0, rfl, A0.out, g0, g1, hB⟩
  case round =>
    obtain ⟨k, rfl, hA, g0, g1, hB⟩ := hrel
    have hk := A16.out k hA
    have mb := mul_bd (k : Int) a (by omega) (by omega) h1 h2
    by_cases hp : (g - (k : Int) * a).tmod b = 0
    · obtain ⟨eu, ev⟩ := AP.out k hA hp
      have EU := Lib.hid eu
      have EV := Lib.hid ev
      clear eu ev
      have hq := tdiv_bd (g - (k : Int) * a) b
      have hw := w64 ((g - (k : Int) * a).tdiv b) (by omega) (by omega)
      have HW := Lib.hid hw; clear hw
      go_wp2
      refine wp_name fun w3 hW3 => ?_
      have g0 : w3.cell? ⟨w.heap.size, 0, none⟩ = some (.int .i64 a) := by rw [hW3]; exact (by first | assumption | exact cell_new (by with_reducible first | rfl | (simp; done) | (simp; omega)) rfl | (repeat (first | assumption | exact cell_new (by with_reducible first | rfl | (simp; done) | (simp; omega)) rfl | refine cell_alloc ?_ _ | refine cell_drew ?_ | refine cell_drewN ?_ _ | refine cell_far ?_ (by simp) _ | (refine cell_far ?_ (by simp <;> omega) _))) | simp [go_sem, *])
      have zg0 := cell_lt g0
      have g1 : w3.cell? ⟨w.heap.size, 1, none⟩ = some (.int .i64 b) := by rw [hW3]; exact (by first | assumption | exact cell_new (by with_reducible first | rfl | (simp; done) | (simp; omega)) rfl | (repeat (first | assumption | exact cell_new (by with_reducible first | rfl | (simp; done) | (simp; omega)) rfl | refine cell_alloc ?_ _ | refine cell_drew ?_ | refine cell_drewN ?_ _ | refine cell_far ?_ (by simp) _ | (refine cell_far ?_ (by simp <;> omega) _))) | simp [go_sem, *])
      have hB : Below w.heap.size w w3 := by rw [hW3]; repeat (first | exact Below.refl _ _ | exact hB | refine Below.drew ?_ | refine below_drewN ?_ _ | refine bset ?_ (by simp <;> omega) _ | refine bal ?_ _)
      have hz : w.heap.size ≤ w3.heap.size := hB.size
      clear hW3
      refine wp_region_grow (w := w3) (by kernel_rfl) (by kernel_rfl) ?_
      have g0g : ∀ s, (grow w3 s).cell? ⟨w.heap.size, 0, none⟩ = some (.int .i64 a) := fun s => bkeep s.below g0
      have g1g : ∀ s, (grow w3 s).cell? ⟨w.heap.size, 1, none⟩ = some (.int .i64 b) := fun s => bkeep s.below g1
      repeat (go_big_quiet_step (fail))
      refine wpQuiet_nil ?_
      intro w4 hb4
      clear g0g
      clear g1g
      have g0 : w4.cell? ⟨w.heap.size, 0, none⟩ = some (.int .i64 a) := bkeep hb4 (by first | assumption | exact cell_new (by with_reducible first | rfl | (simp; done) | (simp; omega)) rfl | (repeat (first | assumption | exact cell_new (by with_reducible first | rfl | (simp; done) | (simp; omega)) rfl | refine cell_alloc ?_ _ | refine cell_drew ?_ | refine cell_drewN ?_ _ | refine cell_far ?_ (by simp) _ | (refine cell_far ?_ (by simp <;> omega) _))) | simp [go_sem, *])
      have zg0 := cell_lt g0
      have g1 : w4.cell? ⟨w.heap.size, 1, none⟩ = some (.int .i64 b) := bkeep hb4 (by first | assumption | exact cell_new (by with_reducible first | rfl | (simp; done) | (simp; omega)) rfl | (repeat (first | assumption | exact cell_new (by with_reducible first | rfl | (simp; done) | (simp; omega)) rfl | refine cell_alloc ?_ _ | refine cell_drew ?_ | refine cell_drewN ?_ _ | refine cell_far ?_ (by simp) _ | (refine cell_far ?_ (by simp <;> omega) _))) | simp [go_sem, *])
      have hB : Below w.heap.size w w4 := bthen (by repeat (first | exact Below.refl _ _ | exact hB | refine Below.drew ?_ | refine below_drewN ?_ _ | refine bset ?_ (by simp <;> omega) _ | refine bal ?_ _)) hb4
      have hz : w.heap.size ≤ w4.heap.size := hB.size
      clear hb4
      go_wp2
      refine bodyPost_ret (v := .tuple #[.int .i64 g, .int .i64 (k : Int), .int .i64 ((g - (k : Int) * a).tdiv b)]) ?_ rfl ⟨by rw [EU.out, EV.out], hB⟩
      simp [results, Try.results22, go_sem]
      try exact HW.out
    · by_cases hm : (g + (k : Int) * a).tmod b = 0
      · obtain ⟨eu, ev⟩ := AM.out k hA hp hm
        have EU := Lib.hid eu
        have EV := Lib.hid ev
        clear eu ev
        have hq := tdiv_bd (g + (k : Int) * a) b
        have hw := w64 ((g + (k : Int) * a).tdiv b) (by omega) (by omega)
        have HW := Lib.hid hw; clear hw
        go_wp2
        refine wp_name fun w3 hW3 => ?_
        have g0 : w3.cell? ⟨w.heap.size, 0, none⟩ = some (.int .i64 a) := by rw [hW3]; exact (by first | assumption | exact cell_new (by with_reducible first | rfl | (simp; done) | (simp; omega)) rfl | (repeat (first | assumption | exact cell_new (by with_reducible first | rfl | (simp; done) | (simp; omega)) rfl | refine cell_alloc ?_ _ | refine cell_drew ?_ | refine cell_drewN ?_ _ | refine cell_far ?_ (by simp) _ | (refine cell_far ?_ (by simp <;> omega) _))) | simp [go_sem, *])
        have zg0 := cell_lt g0
        have g1 : w3.cell? ⟨w.heap.size, 1, none⟩ = some (.int .i64 b) := by rw [hW3]; exact (by first | assumption | exact cell_new (by with_reducible first | rfl | (simp; done) | (simp; omega)) rfl | (repeat (first | assumption | exact cell_new (by with_reducible first | rfl | (simp; done) | (simp; omega)) rfl | refine cell_alloc ?_ _ | refine cell_drew ?_ | refine cell_drewN ?_ _ | refine cell_far ?_ (by simp) _ | (refine cell_far ?_ (by simp <;> omega) _))) | simp [go_sem, *])
        have hB : Below w.heap.size w w3 := by rw [hW3]; repeat (first | exact Below.refl _ _ | exact hB | refine Below.drew ?_ | refine below_drewN ?_ _ | refine bset ?_ (by simp <;> omega) _ | refine bal ?_ _)
        have hz : w.heap.size ≤ w3.heap.size := hB.size
        clear hW3
        refine wp_region_grow (w := w3) (by kernel_rfl) (by kernel_rfl) ?_
        have g0g : ∀ s, (grow w3 s).cell? ⟨w.heap.size, 0, none⟩ = some (.int .i64 a) := fun s => bkeep s.below g0
        have g1g : ∀ s, (grow w3 s).cell? ⟨w.heap.size, 1, none⟩ = some (.int .i64 b) := fun s => bkeep s.below g1
        repeat (go_big_quiet_step (fail))
        refine wpQuiet_nil ?_
        intro w4 hb4
        clear g0g
        clear g1g
        have g0 : w4.cell? ⟨w.heap.size, 0, none⟩ = some (.int .i64 a) := bkeep hb4 (by first | assumption | exact cell_new (by with_reducible first | rfl | (simp; done) | (simp; omega)) rfl | (repeat (first | assumption | exact cell_new (by with_reducible first | rfl | (simp; done) | (simp; omega)) rfl | refine cell_alloc ?_ _ | refine cell_drew ?_ | refine cell_drewN ?_ _ | refine cell_far ?_ (by simp) _ | (refine cell_far ?_ (by simp <;> omega) _))) | simp [go_sem, *])
        have zg0 := cell_lt g0
        have g1 : w4.cell? ⟨w.heap.size, 1, none⟩ = some (.int .i64 b) := bkeep hb4 (by first | assumption | exact cell_new (by with_reducible first | rfl | (simp; done) | (simp; omega)) rfl | (repeat (first | assumption | exact cell_new (by with_reducible first | rfl | (simp; done) | (simp; omega)) rfl | refine cell_alloc ?_ _ | refine cell_drew ?_ | refine cell_drewN ?_ _ | refine cell_far ?_ (by simp) _ | (refine cell_far ?_ (by simp <;> omega) _))) | simp [go_sem, *])
        have hB : Below w.heap.size w w4 := bthen (by repeat (first | exact Below.refl _ _ | exact hB | refine Below.drew ?_ | refine below_drewN ?_ _ | refine bset ?_ (by simp <;> omega) _ | refine bal ?_ _)) hb4
        have hz : w.heap.size ≤ w4.heap.size := hB.size
        clear hb4
        go_wp2
        refine bodyPost_ret (v := .tuple #[.int .i64 g, .int .i64 (-(k : Int)), .int .i64 ((g + (k : Int) * a).tdiv b)]) ?_ rfl ⟨by rw [EU.out, EV.out], hB⟩
        simp [results, Try.results22, go_sem]
        try exact HW.out
      · have hn := AN.out k hA hp hm
        go_wp2
        exact ⟨⟨k + 1, by go_num, hn, g0, g1, hB⟩, by simp [intOf]; omega⟩

theorem refBez_00 (w : World) :
    Calls Try.prog 22 #[pv 0 0] w fun e w' => e = .returned (.tuple #[.int .i64 0, .int .i64 0, .int .i64 0]) ∧ Below w.heap.size w w' := by
  have gc : ∀ w, Calls Try.prog 34 #[pv 0 0] w fun e w' => e = .returned (.int .i64 0) ∧ Below w.heap.size w w' := fun w => refCommon_c 0 0 w
  go_enter Try.func22, Try.ntmps22
  go_wp2_with fail
  refine (gc _).mono ?_
  rintro e w1 ⟨rfl, hb1⟩
  have g0 : w1.cell? ⟨w.heap.size, 0, none⟩ = some (.int .i64 0) := bkeep hb1 (by first | assumption | exact cell_new (by with_reducible first | rfl | (simp; done) | (simp; omega)) rfl | (repeat (first | assumption | exact cell_new (by with_reducible first | rfl | (simp; done) | (simp; omega)) rfl | refine cell_alloc ?_ _ | refine cell_drew ?_ | refine cell_drewN ?_ _ | refine cell_far ?_ (by simp) _ | (refine cell_far ?_ (by simp <;> omega) _))) | simp [go_sem, *])
  have zg0 := cell_lt g0
  have g1 : w1.cell? ⟨w.heap.size, 1, none⟩ = some (.int .i64 0) := bkeep hb1 (by first | assumption | exact cell_new (by with_reducible first | rfl | (simp; done) | (simp; omega)) rfl | (repeat (first | assumption | exact cell_new (by with_reducible first | rfl | (simp; done) | (simp; omega)) rfl | refine cell_alloc ?_ _ | refine cell_drew ?_ | refine cell_drewN ?_ _ | refine cell_far ?_ (by simp) _ | (refine cell_far ?_ (by simp <;> omega) _))) | simp [go_sem, *])
  have hB : Below w.heap.size w w1 := bthen (by repeat (first | exact Below.refl _ _ | exact hB | refine Below.drew ?_ | refine below_drewN ?_ _ | refine bset ?_ (by simp <;> omega) _ | refine bal ?_ _)) hb1
  have hz : w.heap.size ≤ w1.heap.size := hB.size
  clear hb1
  go_wp2
  exact bodyPost_ret (v := .tuple #[.int .i64 0, .int .i64 0, .int .i64 0]) (by simp [results, Try.results22, go_sem]) rfl ⟨rfl, hB⟩

theorem refBez_0 (a : Int) (w : World) (h : PIn a 0) (ha : a ≠ 0) :
    Calls Try.prog 22 #[pv a 0] w fun e w' => e = .returned (.tuple #[.int .i64 (Int.gcd a 0), .int .i64 (a.tdiv (Int.gcd a 0)), .int .i64 0]) ∧ Below w.heap.size w w' := by
  have gc : ∀ w, Calls Try.prog 34 #[pv a 0] w fun e w' => e = .returned (.int .i64 (Int.gcd a 0)) ∧ Below w.heap.size w w' := fun w => by rw [← cm_gcd a 0 h]; exact refCommon_c a 0 w
  have hg := gcd_bd a 0 h
  obtain ⟨h1, h2, h3, h4⟩ := h
  have hz := gcd_zero_iff a 0
  have hg0 : (0 : Int) ≤ (Int.gcd a 0 : Int) := by omega
  generalize (Int.gcd a 0 : Int) = g at *
  have hg1 : ¬ g = 0 := fun e => ha (hz.1 e).1
  have hgb : (g == 0) = false := by simpa using hg1
  have hq := Lib.hid (tdq a g h1 h2)
  have hq2 := tdiv_bd a g
  clear hz h3 h4
  go_enter Try.func22, Try.ntmps22
  go_wp2_with fail
  refine (gc _).mono ?_
  rintro e w1 ⟨rfl, hb1⟩
  have g0 : w1.cell? ⟨w.heap.size, 0, none⟩ = some (.int .i64 a) := bkeep hb1 (by first | assumption | exact cell_new (by with_reducible first | rfl | (simp; done) | (simp; omega)) rfl | (repeat (first | assumption | exact cell_new (by with_reducible first | rfl | (simp; done) | (simp; omega)) rfl | refine cell_alloc ?_ _ | refine cell_drew ?_ | refine cell_drewN ?_ _ | refine cell_far ?_ (by simp) _ | (refine cell_far ?_ (by simp <;> omega) _))) | simp [go_sem, *])
  have zg0 := cell_lt g0
  have g1 : w1.cell? ⟨w.heap.size, 1, none⟩ = some (.int .i64 0) := bkeep hb1 (by first | assumption | exact cell_new (by with_reducible first | rfl | (simp; done) | (simp; omega)) rfl | (repeat (first | assumption | exact cell_new (by with_reducible first | rfl | (simp; done) | (simp; omega)) rfl | refine cell_alloc ?_ _ | refine cell_drew ?_ | refine cell_drewN ?_ _ | refine cell_far ?_ (by simp) _ | (refine cell_far ?_ (by simp <;> omega) _))) | simp [go_sem, *])
  have hB : Below w.heap.size w w1 := bthen (by repeat (first | exact Below.refl _ _ | exact hB | refine Below.drew ?_ | refine below_drewN ?_ _ | refine bset ?_ (by simp <;> omega) _ | refine bal ?_ _)) hb1
  have hz : w.heap.size ≤ w1.heap.size := hB.size
  clear hb1
  go_wp2_with fail
  refine wp_name fun w3 hW3 => ?_
  have g0 : w3.cell? ⟨w.heap.size, 0, none⟩ = some (.int .i64 a) := by rw [hW3]; exact (by first | assumption | exact cell_new (by with_reducible first | rfl | (simp; done) | (simp; omega)) rfl | (repeat (first | assumption | exact cell_new (by with_reducible first | rfl | (simp; done) | (simp; omega)) rfl | refine cell_alloc ?_ _ | refine cell_drew ?_ | refine cell_drewN ?_ _ | refine cell_far ?_ (by simp) _ | (refine cell_far ?_ (by simp <;> omega) _))) | simp [go_sem, *])
  have zg0 := cell_lt g0
  have g1 : w3.cell? ⟨w.heap.size, 1, none⟩ = some (.int .i64 0) := by rw [hW3]; exact (by first | assumption | exact cell_new (by with_reducible first | rfl | (simp; done) | (simp; omega)) rfl | (repeat (first | assumption | exact cell_new (by with_reducible first | rfl | (simp; done) | (simp; omega)) rfl | refine cell_alloc ?_ _ | refine cell_drew ?_ | refine cell_drewN ?_ _ | refine cell_far ?_ (by simp) _ | (refine cell_far ?_ (by simp <;> omega) _))) | simp [go_sem, *])
  have hB : Below w.heap.size w w3 := by rw [hW3]; repeat (first | exact Below.refl _ _ | exact hB | refine Below.drew ?_ | refine below_drewN ?_ _ | refine bset ?_ (by simp <;> omega) _ | refine bal ?_ _)
  have hz : w.heap.size ≤ w3.heap.size := hB.size
  clear hW3
  refine wp_region_grow (w := w3) (by kernel_rfl) (by kernel_rfl) ?_
  have g0g : ∀ s, (grow w3 s).cell? ⟨w.heap.size, 0, none⟩ = some (.int .i64 a) := fun s => bkeep s.below g0
  have g1g : ∀ s, (grow w3 s).cell? ⟨w.heap.size, 1, none⟩ = some (.int .i64 0) := fun s => bkeep s.below g1
  repeat (go_big_quiet_step (fail))
  refine wpQuiet_nil ?_
  intro w4 hb4
  clear g0g
  clear g1g
  have g0 : w4.cell? ⟨w.heap.size, 0, none⟩ = some (.int .i64 a) := bkeep hb4 (by first | assumption | exact cell_new (by with_reducible first | rfl | (simp; done) | (simp; omega)) rfl | (repeat (first | assumption | exact cell_new (by with_reducible first | rfl | (simp; done) | (simp; omega)) rfl | refine cell_alloc ?_ _ | refine cell_drew ?_ | refine cell_drewN ?_ _ | refine cell_far ?_ (by simp) _ | (refine cell_far ?_ (by simp <;> omega) _))) | simp [go_sem, *])
  have zg0 := cell_lt g0
  have g1 : w4.cell? ⟨w.heap.size, 1, none⟩ = some (.int .i64 0) := bkeep hb4 (by first | assumption | exact cell_new (by with_reducible first | rfl | (simp; done) | (simp; omega)) rfl | (repeat (first | assumption | exact cell_new (by with_reducible first | rfl | (simp; done) | (simp; omega)) rfl | refine cell_alloc ?_ _ | refine cell_drew ?_ | refine cell_drewN ?_ _ | refine cell_far ?_ (by simp) _ | (refine cell_far ?_ (by simp <;> omega) _))) | simp [go_sem, *])
  have hB : Below w.heap.size w w4 := bthen (by repeat (first | exact Below.refl _ _ | exact hB | refine Below.drew ?_ | refine below_drewN ?_ _ | refine bset ?_ (by simp <;> omega) _ | refine bal ?_ _)) hb4
  have hz : w.heap.size ≤ w4.heap.size := hB.size
  clear hb4
  go_wp2
  refine bodyPost_ret (v := .tuple #[.int .i64 g, .int .i64 (a.tdiv g), .int .i64 0]) ?_ rfl ⟨rfl, hB⟩
  simp [results, Try.results22, go_sem]
  first | done | exact hq.out.2.1 | exact tdq2 a g (by omega) h2 | exact tdq3 a g (by omega) h2 | exact tdq4 a g (by omega) h2

set_option maxRecDepth 100000 in
set_option maxHeartbeats 1000000 in
/-- the law's own part: what both answer, once known -/
theorem bez_ret (a b g u v : Int) (w : World) (h : PIn a b) (hg0 : 0 ≤ g) (hg : g ≤ 16) (hu1 : -16 ≤ u) (hu2 : u ≤ 16) (hv1 : -16 ≤ v) (hv2 : v ≤ 16) (he : u * a + v * b = g)
    (pc : ∀ w, Calls Try.prog 21 #[pv a b] w fun e w' => e = .returned (.tuple #[.int .i64 g, .int .i64 u, .int .i64 v, .int .i64 0]) ∧ Below w.heap.size w w')
    (rc : ∀ w, Calls Try.prog 22 #[pv a b] w fun e w' => e = .returned (.tuple #[.int .i64 g, .int .i64 u, .int .i64 v]) ∧ Below w.heap.size w w') :
    Calls Try.prog 5 #[pv a b] w fun e w' => e = .returned (.bool true) ∧ Below w.heap.size w w' := by
  have hi := inB_yes h
  have ic : ∀ w, Calls Try.prog 9 #[pv a b] w fun e w' => e = .returned (.bool true) ∧ Below w.heap.size w w' := fun w => by rw [← hi]; exact refIn_c a b w
  obtain ⟨h1, h2, h3, h4⟩ := h
  have m1 := mul_bd u a hu1 hu2 h1 h2
  have m2 := mul_bd v b hv1 hv2 h3 h4
  have lc := live_c
  have hbe : (u * a + v * b == g) = true := by simp [he]
  clear he hi
  go_enter Try.func5, Try.ntmps5
  go_wp2_with fail
  refine (lc _).mono ?_
  rintro e w1 ⟨rfl, hb1⟩
  have g0 : w1.cell? ⟨w.heap.size, 0, none⟩ = some (.int .i64 a) := bkeep hb1 (by first | assumption | exact cell_new (by with_reducible first | rfl | (simp; done) | (simp; omega)) rfl | (repeat (first | assumption | exact cell_new (by with_reducible first | rfl | (simp; done) | (simp; omega)) rfl | refine cell_alloc ?_ _ | refine cell_drew ?_ | refine cell_drewN ?_ _ | refine cell_far ?_ (by simp) _ | (refine cell_far ?_ (by simp <;> omega) _))) | simp [go_sem, *])
  have zg0 := cell_lt g0
  have g1 : w1.cell? ⟨w.heap.size, 1, none⟩ = some (.int .i64 b) := bkeep hb1 (by first | assumption | exact cell_new (by with_reducible first | rfl | (simp; done) | (simp; omega)) rfl | (repeat (first | assumption | exact cell_new (by with_reducible first | rfl | (simp; done) | (simp; omega)) rfl | refine cell_alloc ?_ _ | refine cell_drew ?_ | refine cell_drewN ?_ _ | refine cell_far ?_ (by simp) _ | (refine cell_far ?_ (by simp <;> omega) _))) | simp [go_sem, *])
  have hB : Below w.heap.size w w1 := bthen (by repeat (first | exact Below.refl _ _ | exact hB | refine Below.drew ?_ | refine below_drewN ?_ _ | refine bset ?_ (by simp <;> omega) _ | refine bal ?_ _)) hb1
  have hz : w.heap.size ≤ w1.heap.size := hB.size
  clear hb1
  go_wp2_with fail
  refine (pc _).mono ?_
  rintro e w2 ⟨rfl, hb2⟩
  have g0 : w2.cell? ⟨w.heap.size, 0, none⟩ = some (.int .i64 a) := bkeep hb2 (by first | assumption | exact cell_new (by with_reducible first | rfl | (simp; done) | (simp; omega)) rfl | (repeat (first | assumption | exact cell_new (by with_reducible first | rfl | (simp; done) | (simp; omega)) rfl | refine cell_alloc ?_ _ | refine cell_drew ?_ | refine cell_drewN ?_ _ | refine cell_far ?_ (by simp) _ | (refine cell_far ?_ (by simp <;> omega) _))) | simp [go_sem, *])
  have zg0 := cell_lt g0
  have g1 : w2.cell? ⟨w.heap.size, 1, none⟩ = some (.int .i64 b) := bkeep hb2 (by first | assumption | exact cell_new (by with_reducible first | rfl | (simp; done) | (simp; omega)) rfl | (repeat (first | assumption | exact cell_new (by with_reducible first | rfl | (simp; done) | (simp; omega)) rfl | refine cell_alloc ?_ _ | refine cell_drew ?_ | refine cell_drewN ?_ _ | refine cell_far ?_ (by simp) _ | (refine cell_far ?_ (by simp <;> omega) _))) | simp [go_sem, *])
  have hB : Below w.heap.size w w2 := bthen (by repeat (first | exact Below.refl _ _ | exact hB | refine Below.drew ?_ | refine below_drewN ?_ _ | refine bset ?_ (by simp <;> omega) _ | refine bal ?_ _)) hb2
  have hz : w.heap.size ≤ w2.heap.size := hB.size
  clear hb2
  go_wp2_with fail
  refine (ic _).mono ?_
  rintro e w3 ⟨rfl, hb3⟩
  have g0 : w3.cell? ⟨w.heap.size, 0, none⟩ = some (.int .i64 a) := bkeep hb3 (by first | assumption | exact cell_new (by with_reducible first | rfl | (simp; done) | (simp; omega)) rfl | (repeat (first | assumption | exact cell_new (by with_reducible first | rfl | (simp; done) | (simp; omega)) rfl | refine cell_alloc ?_ _ | refine cell_drew ?_ | refine cell_drewN ?_ _ | refine cell_far ?_ (by simp) _ | (refine cell_far ?_ (by simp <;> omega) _))) | simp [go_sem, *])
  have zg0 := cell_lt g0
  have g1 : w3.cell? ⟨w.heap.size, 1, none⟩ = some (.int .i64 b) := bkeep hb3 (by first | assumption | exact cell_new (by with_reducible first | rfl | (simp; done) | (simp; omega)) rfl | (repeat (first | assumption | exact cell_new (by with_reducible first | rfl | (simp; done) | (simp; omega)) rfl | refine cell_alloc ?_ _ | refine cell_drew ?_ | refine cell_drewN ?_ _ | refine cell_far ?_ (by simp) _ | (refine cell_far ?_ (by simp <;> omega) _))) | simp [go_sem, *])
  have hB : Below w.heap.size w w3 := bthen (by repeat (first | exact Below.refl _ _ | exact hB | refine Below.drew ?_ | refine below_drewN ?_ _ | refine bset ?_ (by simp <;> omega) _ | refine bal ?_ _)) hb3
  have hz : w.heap.size ≤ w3.heap.size := hB.size
  clear hb3
  go_wp2_with fail
  refine (rc _).mono ?_
  rintro e w4 ⟨rfl, hb4⟩
  have g0 : w4.cell? ⟨w.heap.size, 0, none⟩ = some (.int .i64 a) := bkeep hb4 (by first | assumption | exact cell_new (by with_reducible first | rfl | (simp; done) | (simp; omega)) rfl | (repeat (first | assumption | exact cell_new (by with_reducible first | rfl | (simp; done) | (simp; omega)) rfl | refine cell_alloc ?_ _ | refine cell_drew ?_ | refine cell_drewN ?_ _ | refine cell_far ?_ (by simp) _ | (refine cell_far ?_ (by simp <;> omega) _))) | simp [go_sem, *])
  have zg0 := cell_lt g0
  have g1 : w4.cell? ⟨w.heap.size, 1, none⟩ = some (.int .i64 b) := bkeep hb4 (by first | assumption | exact cell_new (by with_reducible first | rfl | (simp; done) | (simp; omega)) rfl | (repeat (first | assumption | exact cell_new (by with_reducible first | rfl | (simp; done) | (simp; omega)) rfl | refine cell_alloc ?_ _ | refine cell_drew ?_ | refine cell_drewN ?_ _ | refine cell_far ?_ (by simp) _ | (refine cell_far ?_ (by simp <;> omega) _))) | simp [go_sem, *])
  have hB : Below w.heap.size w w4 := bthen (by repeat (first | exact Below.refl _ _ | exact hB | refine Below.drew ?_ | refine below_drewN ?_ _ | refine bset ?_ (by simp <;> omega) _ | refine bal ?_ _)) hb4
  have hz : w.heap.size ≤ w4.heap.size := hB.size
  clear hb4
  go_wp2_with fail
  refine (lc _).mono ?_
  rintro e w5 ⟨rfl, hb5⟩
  have g0 : w5.cell? ⟨w.heap.size, 0, none⟩ = some (.int .i64 a) := bkeep hb5 (by first | assumption | exact cell_new (by with_reducible first | rfl | (simp; done) | (simp; omega)) rfl | (repeat (first | assumption | exact cell_new (by with_reducible first | rfl | (simp; done) | (simp; omega)) rfl | refine cell_alloc ?_ _ | refine cell_drew ?_ | refine cell_drewN ?_ _ | refine cell_far ?_ (by simp) _ | (refine cell_far ?_ (by simp <;> omega) _))) | simp [go_sem, *])
  have zg0 := cell_lt g0
  have g1 : w5.cell? ⟨w.heap.size, 1, none⟩ = some (.int .i64 b) := bkeep hb5 (by first | assumption | exact cell_new (by with_reducible first | rfl | (simp; done) | (simp; omega)) rfl | (repeat (first | assumption | exact cell_new (by with_reducible first | rfl | (simp; done) | (simp; omega)) rfl | refine cell_alloc ?_ _ | refine cell_drew ?_ | refine cell_drewN ?_ _ | refine cell_far ?_ (by simp) _ | (refine cell_far ?_ (by simp <;> omega) _))) | simp [go_sem, *])
  have hB : Below w.heap.size w w5 := bthen (by repeat (first | exact Below.refl _ _ | exact hB | refine Below.drew ?_ | refine below_drewN ?_ _ | refine bset ?_ (by simp <;> omega) _ | refine bal ?_ _)) hb5
  have hz : w.heap.size ≤ w5.heap.size := hB.size
  clear hb5
  go_wp2
  go_ret
  exact ⟨rfl, hB⟩

set_option maxRecDepth 100000 in
set_option maxHeartbeats 1000000 in
theorem bezout_c (a b : Int) (w : World) :
    Calls Try.prog 5 #[pv a b] w fun e w' => e = .returned (.bool true) ∧ Below w.heap.size w w' := by
  by_cases h : PIn a b
  · by_cases hb : b = 0
    · subst hb
      by_cases ha : a = 0
      · subst ha
        exact bez_ret 0 0 0 0 0 w h (by omega) (by omega) (by omega) (by omega) (by omega) (by omega) (by omega) ptBez_00 refBez_00
      · have hd : a.tdiv (Int.gcd a 0) * a + 0 * 0 = (Int.gcd a 0 : Int) ∧ -16 ≤ a.tdiv (Int.gcd a 0) ∧ a.tdiv (Int.gcd a 0) ≤ 16 := by
          have := fin_all (p := fun a b => decide (b = 0 → a.tdiv (Int.gcd a 0) * a + 0 * 0 = (Int.gcd a 0 : Int) ∧ -16 ≤ a.tdiv (Int.gcd a 0) ∧ a.tdiv (Int.gcd a 0) ≤ 16)) (by decide +kernel) a 0 h
          simpa using this
        exact bez_ret a 0 (Int.gcd a 0) (a.tdiv (Int.gcd a 0)) 0 w h (by omega) (gcd_bd a 0 h) hd.2.1 hd.2.2 (by omega) (by omega) hd.1 (fun w => ptBez_0 a w h ha) (fun w => refBez_0 a w h ha)
    · obtain ⟨u, v, hs, he, hu1, hu2, hv1, hv2⟩ := bz_some a b h hb
      exact bez_ret a b (Int.gcd a b) u v w h (by omega) (gcd_bd a b h) hu1 hu2 hv1 hv2 he (fun w => ptBez_b a b u v w h hb hs) (fun w => refBez_b a b u v w h hb hs)
  · have hi := inB_no h
    have ic : ∀ w, Calls Try.prog 9 #[pv a b] w fun e w' => e = .returned (.bool false) ∧ Below w.heap.size w w' := fun w => by rw [← hi]; exact refIn_c a b w
    have lc := live_c
    have pc := fun w => ptBez_no a b w h
    clear hi h
    go_enter Try.func5, Try.ntmps5
    go_wp2_with fail
    refine (lc _).mono ?_
    rintro e w1 ⟨rfl, hb1⟩
    have g0 : w1.cell? ⟨w.heap.size, 0, none⟩ = some (.int .i64 a) := bkeep hb1 (by first | assumption | exact cell_new (by with_reducible first | rfl | (simp; done) | (simp; omega)) rfl | (repeat (first | assumption | exact cell_new (by with_reducible first | rfl | (simp; done) | (simp; omega)) rfl | refine cell_alloc ?_ _ | refine cell_drew ?_ | refine cell_drewN ?_ _ | refine cell_far ?_ (by simp) _ | (refine cell_far ?_ (by simp <;> omega) _))) | simp [go_sem, *])
    have zg0 := cell_lt g0
    have g1 : w1.cell? ⟨w.heap.size, 1, none⟩ = some (.int .i64 b) := bkeep hb1 (by first | assumption | exact cell_new (by with_reducible first | rfl | (simp; done) | (simp; omega)) rfl | (repeat (first | assumption | exact cell_new (by with_reducible first | rfl | (simp; done) | (simp; omega)) rfl | refine cell_alloc ?_ _ | refine cell_drew ?_ | refine cell_drewN ?_ _ | refine cell_far ?_ (by simp) _ | (refine cell_far ?_ (by simp <;> omega) _))) | simp [go_sem, *])
    have hB : Below w.heap.size w w1 := bthen (by repeat (first | exact Below.refl _ _ | exact hB | refine Below.drew ?_ | refine below_drewN ?_ _ | refine bset ?_ (by simp <;> omega) _ | refine bal ?_ _)) hb1
    have hz : w.heap.size ≤ w1.heap.size := hB.size
    clear hb1
    go_wp2_with fail
    refine (pc _).mono ?_
    rintro e w2 ⟨rfl, hb2⟩
    have g0 : w2.cell? ⟨w.heap.size, 0, none⟩ = some (.int .i64 a) := bkeep hb2 (by first | assumption | exact cell_new (by with_reducible first | rfl | (simp; done) | (simp; omega)) rfl | (repeat (first | assumption | exact cell_new (by with_reducible first | rfl | (simp; done) | (simp; omega)) rfl | refine cell_alloc ?_ _ | refine cell_drew ?_ | refine cell_drewN ?_ _ | refine cell_far ?_ (by simp) _ | (refine cell_far ?_ (by simp <;> omega) _))) | simp [go_sem, *])
    have zg0 := cell_lt g0
    have g1 : w2.cell? ⟨w.heap.size, 1, none⟩ = some (.int .i64 b) := bkeep hb2 (by first | assumption | exact cell_new (by with_reducible first | rfl | (simp; done) | (simp; omega)) rfl | (repeat (first | assumption | exact cell_new (by with_reducible first | rfl | (simp; done) | (simp; omega)) rfl | refine cell_alloc ?_ _ | refine cell_drew ?_ | refine cell_drewN ?_ _ | refine cell_far ?_ (by simp) _ | (refine cell_far ?_ (by simp <;> omega) _))) | simp [go_sem, *])
    have hB : Below w.heap.size w w2 := bthen (by repeat (first | exact Below.refl _ _ | exact hB | refine Below.drew ?_ | refine below_drewN ?_ _ | refine bset ?_ (by simp <;> omega) _ | refine bal ?_ _)) hb2
    have hz : w.heap.size ≤ w2.heap.size := hB.size
    clear hb2
    go_wp2_with fail
    refine (ic _).mono ?_
    rintro e w3 ⟨rfl, hb3⟩
    have g0 : w3.cell? ⟨w.heap.size, 0, none⟩ = some (.int .i64 a) := bkeep hb3 (by first | assumption | exact cell_new (by with_reducible first | rfl | (simp; done) | (simp; omega)) rfl | (repeat (first | assumption | exact cell_new (by with_reducible first | rfl | (simp; done) | (simp; omega)) rfl | refine cell_alloc ?_ _ | refine cell_drew ?_ | refine cell_drewN ?_ _ | refine cell_far ?_ (by simp) _ | (refine cell_far ?_ (by simp <;> omega) _))) | simp [go_sem, *])
    have zg0 := cell_lt g0
    have g1 : w3.cell? ⟨w.heap.size, 1, none⟩ = some (.int .i64 b) := bkeep hb3 (by first | assumption | exact cell_new (by with_reducible first | rfl | (simp; done) | (simp; omega)) rfl | (repeat (first | assumption | exact cell_new (by with_reducible first | rfl | (simp; done) | (simp; omega)) rfl | refine cell_alloc ?_ _ | refine cell_drew ?_ | refine cell_drewN ?_ _ | refine cell_far ?_ (by simp) _ | (refine cell_far ?_ (by simp <;> omega) _))) | simp [go_sem, *])
    have hB : Below w.heap.size w w3 := bthen (by repeat (first | exact Below.refl _ _ | exact hB | refine Below.drew ?_ | refine below_drewN ?_ _ | refine bset ?_ (by simp <;> omega) _ | refine bal ?_ _)) hb3
    have hz : w.heap.size ≤ w3.heap.size := hB.size
    clear hb3
    go_wp2_with fail
    refine (lc _).mono ?_
    rintro e w4 ⟨rfl, hb4⟩
    have g0 : w4.cell? ⟨w.heap.size, 0, none⟩ = some (.int .i64 a) := bkeep hb4 (by first | assumption | exact cell_new (by with_reducible first | rfl | (simp; done) | (simp; omega)) rfl | (repeat (first | assumption | exact cell_new (by with_reducible first | rfl | (simp; done) | (simp; omega)) rfl | refine cell_alloc ?_ _ | refine cell_drew ?_ | refine cell_drewN ?_ _ | refine cell_far ?_ (by simp) _ | (refine cell_far ?_ (by simp <;> omega) _))) | simp [go_sem, *])
    have zg0 := cell_lt g0
    have g1 : w4.cell? ⟨w.heap.size, 1, none⟩ = some (.int .i64 b) := bkeep hb4 (by first | assumption | exact cell_new (by with_reducible first | rfl | (simp; done) | (simp; omega)) rfl | (repeat (first | assumption | exact cell_new (by with_reducible first | rfl | (simp; done) | (simp; omega)) rfl | refine cell_alloc ?_ _ | refine cell_drew ?_ | refine cell_drewN ?_ _ | refine cell_far ?_ (by simp) _ | (refine cell_far ?_ (by simp <;> omega) _))) | simp [go_sem, *])
    have hB : Below w.heap.size w w4 := bthen (by repeat (first | exact Below.refl _ _ | exact hB | refine Below.drew ?_ | refine below_drewN ?_ _ | refine bset ?_ (by simp <;> omega) _ | refine bal ?_ _)) hb4
    have hz : w.heap.size ≤ w4.heap.size := hB.size
    clear hb4
    go_wp2
    go_ret
    exact ⟨rfl, hB⟩
end Go.Proofs.Ytefoljempkpmgaa
