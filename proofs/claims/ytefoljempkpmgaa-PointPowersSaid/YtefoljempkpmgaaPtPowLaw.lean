/- PointPowers: the law. -/
import Derived.Test.YtefoljempkpmgaaPtPow2
namespace Go.Proofs.Ytefoljempkpmgaa
open Pt Num
open Go.ChangeShapes Go.WideShapes Go.ChangeAt Go.RowKit
set_option linter.unusedVariables false
set_option linter.unusedSimpArgs false

set_option maxRecDepth 100000 in
set_option maxHeartbeats 2000000 in
theorem powLaw_no (a b n c : Int) (w : World) (h : ¬ (PIn a b ∧ 0 ≤ n ∧ n ≤ 16)) :
    Calls Try.prog 7 #[pv a b, .int .i64 n, .int .i64 c] w fun e w' => e = .returned (.bool true) ∧ Below w.heap.size w w' := by
  have pc := fun w => ptPow_no a b n w h
  have lc := live_c
  have ic : ∀ w, Calls Try.prog 9 #[pv a b] w fun e w' => e = .returned (.bool (inB a b)) ∧ Below w.heap.size w w' := fun w => refIn_c a b w
  by_cases hi : PIn a b
  · rw [inB_yes hi] at ic
    by_cases h0 : n < 0
    · clear h hi
      go_enter Try.func7, Try.ntmps7
      go_wp2_with fail
      refine (lc _).mono ?_
      rintro e w1 ⟨rfl, hb1⟩
      have g0 : w1.cell? ⟨w.heap.size, 0, none⟩ = some (.int .i64 a) := bkeep hb1 (by first | assumption | exact cell_new (by with_reducible first | rfl | (simp; done) | (simp; omega)) rfl | (repeat (first | assumption | exact cell_new (by with_reducible first | rfl | (simp; done) | (simp; omega)) rfl | refine cell_alloc ?_ _ | refine cell_drew ?_ | refine cell_drewN ?_ _ | refine cell_far ?_ (by simp) _ | (refine cell_far ?_ (by simp <;> omega) _))) | simp [go_sem, *])
      have zg0 := cell_lt g0
      have g1 : w1.cell? ⟨w.heap.size, 1, none⟩ = some (.int .i64 b) := bkeep hb1 (by first | assumption | exact cell_new (by with_reducible first | rfl | (simp; done) | (simp; omega)) rfl | (repeat (first | assumption | exact cell_new (by with_reducible first | rfl | (simp; done) | (simp; omega)) rfl | refine cell_alloc ?_ _ | refine cell_drew ?_ | refine cell_drewN ?_ _ | refine cell_far ?_ (by simp) _ | (refine cell_far ?_ (by simp <;> omega) _))) | simp [go_sem, *])
      have hB : Below w.heap.size w w1 := bthen (by repeat (first | exact Below.refl _ _ | exact hB | refine Below.drew ?_ | refine below_drewN ?_ _ | refine bset ?_ (by simp <;> omega) _ | refine bal ?_ _)) hb1
      have hz : w.heap.size ≤ w1.heap.size := hB.size
      go_wp2_with fail
      refine (pc _).mono ?_
      rintro e w2 ⟨rfl, hb2⟩
      have g0 : w2.cell? ⟨w.heap.size, 0, none⟩ = some (.int .i64 a) := bkeep hb2 (by first | assumption | exact cell_new (by with_reducible first | rfl | (simp; done) | (simp; omega)) rfl | (repeat (first | assumption | exact cell_new (by with_reducible first | rfl | (simp; done) | (simp; omega)) rfl | refine cell_alloc ?_ _ | refine cell_drew ?_ | refine cell_drewN ?_ _ | refine cell_far ?_ (by simp) _ | (refine cell_far ?_ (by simp <;> omega) _))) | simp [go_sem, *])
      have zg0 := cell_lt g0
      have g1 : w2.cell? ⟨w.heap.size, 1, none⟩ = some (.int .i64 b) := bkeep hb2 (by first | assumption | exact cell_new (by with_reducible first | rfl | (simp; done) | (simp; omega)) rfl | (repeat (first | assumption | exact cell_new (by with_reducible first | rfl | (simp; done) | (simp; omega)) rfl | refine cell_alloc ?_ _ | refine cell_drew ?_ | refine cell_drewN ?_ _ | refine cell_far ?_ (by simp) _ | (refine cell_far ?_ (by simp <;> omega) _))) | simp [go_sem, *])
      have hB : Below w.heap.size w w2 := bthen (by repeat (first | exact Below.refl _ _ | exact hB | refine Below.drew ?_ | refine below_drewN ?_ _ | refine bset ?_ (by simp <;> omega) _ | refine bal ?_ _)) hb2
      have hz : w.heap.size ≤ w2.heap.size := hB.size
      go_wp2_with fail
      refine (ic _).mono ?_
      rintro e w3 ⟨rfl, hb3⟩
      have g0 : w3.cell? ⟨w.heap.size, 0, none⟩ = some (.int .i64 a) := bkeep hb3 (by first | assumption | exact cell_new (by with_reducible first | rfl | (simp; done) | (simp; omega)) rfl | (repeat (first | assumption | exact cell_new (by with_reducible first | rfl | (simp; done) | (simp; omega)) rfl | refine cell_alloc ?_ _ | refine cell_drew ?_ | refine cell_drewN ?_ _ | refine cell_far ?_ (by simp) _ | (refine cell_far ?_ (by simp <;> omega) _))) | simp [go_sem, *])
      have zg0 := cell_lt g0
      have g1 : w3.cell? ⟨w.heap.size, 1, none⟩ = some (.int .i64 b) := bkeep hb3 (by first | assumption | exact cell_new (by with_reducible first | rfl | (simp; done) | (simp; omega)) rfl | (repeat (first | assumption | exact cell_new (by with_reducible first | rfl | (simp; done) | (simp; omega)) rfl | refine cell_alloc ?_ _ | refine cell_drew ?_ | refine cell_drewN ?_ _ | refine cell_far ?_ (by simp) _ | (refine cell_far ?_ (by simp <;> omega) _))) | simp [go_sem, *])
      have hB : Below w.heap.size w w3 := bthen (by repeat (first | exact Below.refl _ _ | exact hB | refine Below.drew ?_ | refine below_drewN ?_ _ | refine bset ?_ (by simp <;> omega) _ | refine bal ?_ _)) hb3
      have hz : w.heap.size ≤ w3.heap.size := hB.size
      go_wp2_with fail
      refine (lc _).mono ?_
      rintro e w4 ⟨rfl, hb4⟩
      have g0 : w4.cell? ⟨w.heap.size, 0, none⟩ = some (.int .i64 a) := bkeep hb4 (by first | assumption | exact cell_new (by with_reducible first | rfl | (simp; done) | (simp; omega)) rfl | (repeat (first | assumption | exact cell_new (by with_reducible first | rfl | (simp; done) | (simp; omega)) rfl | refine cell_alloc ?_ _ | refine cell_drew ?_ | refine cell_drewN ?_ _ | refine cell_far ?_ (by simp) _ | (refine cell_far ?_ (by simp <;> omega) _))) | simp [go_sem, *])
      have zg0 := cell_lt g0
      have g1 : w4.cell? ⟨w.heap.size, 1, none⟩ = some (.int .i64 b) := bkeep hb4 (by first | assumption | exact cell_new (by with_reducible first | rfl | (simp; done) | (simp; omega)) rfl | (repeat (first | assumption | exact cell_new (by with_reducible first | rfl | (simp; done) | (simp; omega)) rfl | refine cell_alloc ?_ _ | refine cell_drew ?_ | refine cell_drewN ?_ _ | refine cell_far ?_ (by simp) _ | (refine cell_far ?_ (by simp <;> omega) _))) | simp [go_sem, *])
      have hB : Below w.heap.size w w4 := bthen (by repeat (first | exact Below.refl _ _ | exact hB | refine Below.drew ?_ | refine below_drewN ?_ _ | refine bset ?_ (by simp <;> omega) _ | refine bal ?_ _)) hb4
      have hz : w.heap.size ≤ w4.heap.size := hB.size
      go_wp2
      go_ret
      exact ⟨rfl, hB⟩
    · have h1 : 16 < n := by
        apply Int.lt_of_not_ge; intro h2; exact h ⟨hi, by omega, h2⟩
      clear h hi
      go_enter Try.func7, Try.ntmps7
      go_wp2_with fail
      refine (lc _).mono ?_
      rintro e w1 ⟨rfl, hb1⟩
      have g0 : w1.cell? ⟨w.heap.size, 0, none⟩ = some (.int .i64 a) := bkeep hb1 (by first | assumption | exact cell_new (by with_reducible first | rfl | (simp; done) | (simp; omega)) rfl | (repeat (first | assumption | exact cell_new (by with_reducible first | rfl | (simp; done) | (simp; omega)) rfl | refine cell_alloc ?_ _ | refine cell_drew ?_ | refine cell_drewN ?_ _ | refine cell_far ?_ (by simp) _ | (refine cell_far ?_ (by simp <;> omega) _))) | simp [go_sem, *])
      have zg0 := cell_lt g0
      have g1 : w1.cell? ⟨w.heap.size, 1, none⟩ = some (.int .i64 b) := bkeep hb1 (by first | assumption | exact cell_new (by with_reducible first | rfl | (simp; done) | (simp; omega)) rfl | (repeat (first | assumption | exact cell_new (by with_reducible first | rfl | (simp; done) | (simp; omega)) rfl | refine cell_alloc ?_ _ | refine cell_drew ?_ | refine cell_drewN ?_ _ | refine cell_far ?_ (by simp) _ | (refine cell_far ?_ (by simp <;> omega) _))) | simp [go_sem, *])
      have hB : Below w.heap.size w w1 := bthen (by repeat (first | exact Below.refl _ _ | exact hB | refine Below.drew ?_ | refine below_drewN ?_ _ | refine bset ?_ (by simp <;> omega) _ | refine bal ?_ _)) hb1
      have hz : w.heap.size ≤ w1.heap.size := hB.size
      go_wp2_with fail
      refine (pc _).mono ?_
      rintro e w2 ⟨rfl, hb2⟩
      have g0 : w2.cell? ⟨w.heap.size, 0, none⟩ = some (.int .i64 a) := bkeep hb2 (by first | assumption | exact cell_new (by with_reducible first | rfl | (simp; done) | (simp; omega)) rfl | (repeat (first | assumption | exact cell_new (by with_reducible first | rfl | (simp; done) | (simp; omega)) rfl | refine cell_alloc ?_ _ | refine cell_drew ?_ | refine cell_drewN ?_ _ | refine cell_far ?_ (by simp) _ | (refine cell_far ?_ (by simp <;> omega) _))) | simp [go_sem, *])
      have zg0 := cell_lt g0
      have g1 : w2.cell? ⟨w.heap.size, 1, none⟩ = some (.int .i64 b) := bkeep hb2 (by first | assumption | exact cell_new (by with_reducible first | rfl | (simp; done) | (simp; omega)) rfl | (repeat (first | assumption | exact cell_new (by with_reducible first | rfl | (simp; done) | (simp; omega)) rfl | refine cell_alloc ?_ _ | refine cell_drew ?_ | refine cell_drewN ?_ _ | refine cell_far ?_ (by simp) _ | (refine cell_far ?_ (by simp <;> omega) _))) | simp [go_sem, *])
      have hB : Below w.heap.size w w2 := bthen (by repeat (first | exact Below.refl _ _ | exact hB | refine Below.drew ?_ | refine below_drewN ?_ _ | refine bset ?_ (by simp <;> omega) _ | refine bal ?_ _)) hb2
      have hz : w.heap.size ≤ w2.heap.size := hB.size
      go_wp2_with fail
      refine (ic _).mono ?_
      rintro e w3 ⟨rfl, hb3⟩
      have g0 : w3.cell? ⟨w.heap.size, 0, none⟩ = some (.int .i64 a) := bkeep hb3 (by first | assumption | exact cell_new (by with_reducible first | rfl | (simp; done) | (simp; omega)) rfl | (repeat (first | assumption | exact cell_new (by with_reducible first | rfl | (simp; done) | (simp; omega)) rfl | refine cell_alloc ?_ _ | refine cell_drew ?_ | refine cell_drewN ?_ _ | refine cell_far ?_ (by simp) _ | (refine cell_far ?_ (by simp <;> omega) _))) | simp [go_sem, *])
      have zg0 := cell_lt g0
      have g1 : w3.cell? ⟨w.heap.size, 1, none⟩ = some (.int .i64 b) := bkeep hb3 (by first | assumption | exact cell_new (by with_reducible first | rfl | (simp; done) | (simp; omega)) rfl | (repeat (first | assumption | exact cell_new (by with_reducible first | rfl | (simp; done) | (simp; omega)) rfl | refine cell_alloc ?_ _ | refine cell_drew ?_ | refine cell_drewN ?_ _ | refine cell_far ?_ (by simp) _ | (refine cell_far ?_ (by simp <;> omega) _))) | simp [go_sem, *])
      have hB : Below w.heap.size w w3 := bthen (by repeat (first | exact Below.refl _ _ | exact hB | refine Below.drew ?_ | refine below_drewN ?_ _ | refine bset ?_ (by simp <;> omega) _ | refine bal ?_ _)) hb3
      have hz : w.heap.size ≤ w3.heap.size := hB.size
      go_wp2_with fail
      refine (lc _).mono ?_
      rintro e w4 ⟨rfl, hb4⟩
      have g0 : w4.cell? ⟨w.heap.size, 0, none⟩ = some (.int .i64 a) := bkeep hb4 (by first | assumption | exact cell_new (by with_reducible first | rfl | (simp; done) | (simp; omega)) rfl | (repeat (first | assumption | exact cell_new (by with_reducible first | rfl | (simp; done) | (simp; omega)) rfl | refine cell_alloc ?_ _ | refine cell_drew ?_ | refine cell_drewN ?_ _ | refine cell_far ?_ (by simp) _ | (refine cell_far ?_ (by simp <;> omega) _))) | simp [go_sem, *])
      have zg0 := cell_lt g0
      have g1 : w4.cell? ⟨w.heap.size, 1, none⟩ = some (.int .i64 b) := bkeep hb4 (by first | assumption | exact cell_new (by with_reducible first | rfl | (simp; done) | (simp; omega)) rfl | (repeat (first | assumption | exact cell_new (by with_reducible first | rfl | (simp; done) | (simp; omega)) rfl | refine cell_alloc ?_ _ | refine cell_drew ?_ | refine cell_drewN ?_ _ | refine cell_far ?_ (by simp) _ | (refine cell_far ?_ (by simp <;> omega) _))) | simp [go_sem, *])
      have hB : Below w.heap.size w w4 := bthen (by repeat (first | exact Below.refl _ _ | exact hB | refine Below.drew ?_ | refine below_drewN ?_ _ | refine bset ?_ (by simp <;> omega) _ | refine bal ?_ _)) hb4
      have hz : w.heap.size ≤ w4.heap.size := hB.size
      go_wp2
      go_ret
      exact ⟨rfl, hB⟩
  · rw [inB_no hi] at ic
    clear h hi
    go_enter Try.func7, Try.ntmps7
    go_wp2_with fail
    refine (lc _).mono ?_
    rintro e w1 ⟨rfl, hb1⟩
    have g0 : w1.cell? ⟨w.heap.size, 0, none⟩ = some (.int .i64 a) := bkeep hb1 (by first | assumption | exact cell_new (by with_reducible first | rfl | (simp; done) | (simp; omega)) rfl | (repeat (first | assumption | exact cell_new (by with_reducible first | rfl | (simp; done) | (simp; omega)) rfl | refine cell_alloc ?_ _ | refine cell_drew ?_ | refine cell_drewN ?_ _ | refine cell_far ?_ (by simp) _ | (refine cell_far ?_ (by simp <;> omega) _))) | simp [go_sem, *])
    have zg0 := cell_lt g0
    have g1 : w1.cell? ⟨w.heap.size, 1, none⟩ = some (.int .i64 b) := bkeep hb1 (by first | assumption | exact cell_new (by with_reducible first | rfl | (simp; done) | (simp; omega)) rfl | (repeat (first | assumption | exact cell_new (by with_reducible first | rfl | (simp; done) | (simp; omega)) rfl | refine cell_alloc ?_ _ | refine cell_drew ?_ | refine cell_drewN ?_ _ | refine cell_far ?_ (by simp) _ | (refine cell_far ?_ (by simp <;> omega) _))) | simp [go_sem, *])
    have hB : Below w.heap.size w w1 := bthen (by repeat (first | exact Below.refl _ _ | exact hB | refine Below.drew ?_ | refine below_drewN ?_ _ | refine bset ?_ (by simp <;> omega) _ | refine bal ?_ _)) hb1
    have hz : w.heap.size ≤ w1.heap.size := hB.size
    go_wp2_with fail
    refine (pc _).mono ?_
    rintro e w2 ⟨rfl, hb2⟩
    have g0 : w2.cell? ⟨w.heap.size, 0, none⟩ = some (.int .i64 a) := bkeep hb2 (by first | assumption | exact cell_new (by with_reducible first | rfl | (simp; done) | (simp; omega)) rfl | (repeat (first | assumption | exact cell_new (by with_reducible first | rfl | (simp; done) | (simp; omega)) rfl | refine cell_alloc ?_ _ | refine cell_drew ?_ | refine cell_drewN ?_ _ | refine cell_far ?_ (by simp) _ | (refine cell_far ?_ (by simp <;> omega) _))) | simp [go_sem, *])
    have zg0 := cell_lt g0
    have g1 : w2.cell? ⟨w.heap.size, 1, none⟩ = some (.int .i64 b) := bkeep hb2 (by first | assumption | exact cell_new (by with_reducible first | rfl | (simp; done) | (simp; omega)) rfl | (repeat (first | assumption | exact cell_new (by with_reducible first | rfl | (simp; done) | (simp; omega)) rfl | refine cell_alloc ?_ _ | refine cell_drew ?_ | refine cell_drewN ?_ _ | refine cell_far ?_ (by simp) _ | (refine cell_far ?_ (by simp <;> omega) _))) | simp [go_sem, *])
    have hB : Below w.heap.size w w2 := bthen (by repeat (first | exact Below.refl _ _ | exact hB | refine Below.drew ?_ | refine below_drewN ?_ _ | refine bset ?_ (by simp <;> omega) _ | refine bal ?_ _)) hb2
    have hz : w.heap.size ≤ w2.heap.size := hB.size
    go_wp2_with fail
    refine (ic _).mono ?_
    rintro e w3 ⟨rfl, hb3⟩
    have g0 : w3.cell? ⟨w.heap.size, 0, none⟩ = some (.int .i64 a) := bkeep hb3 (by first | assumption | exact cell_new (by with_reducible first | rfl | (simp; done) | (simp; omega)) rfl | (repeat (first | assumption | exact cell_new (by with_reducible first | rfl | (simp; done) | (simp; omega)) rfl | refine cell_alloc ?_ _ | refine cell_drew ?_ | refine cell_drewN ?_ _ | refine cell_far ?_ (by simp) _ | (refine cell_far ?_ (by simp <;> omega) _))) | simp [go_sem, *])
    have zg0 := cell_lt g0
    have g1 : w3.cell? ⟨w.heap.size, 1, none⟩ = some (.int .i64 b) := bkeep hb3 (by first | assumption | exact cell_new (by with_reducible first | rfl | (simp; done) | (simp; omega)) rfl | (repeat (first | assumption | exact cell_new (by with_reducible first | rfl | (simp; done) | (simp; omega)) rfl | refine cell_alloc ?_ _ | refine cell_drew ?_ | refine cell_drewN ?_ _ | refine cell_far ?_ (by simp) _ | (refine cell_far ?_ (by simp <;> omega) _))) | simp [go_sem, *])
    have hB : Below w.heap.size w w3 := bthen (by repeat (first | exact Below.refl _ _ | exact hB | refine Below.drew ?_ | refine below_drewN ?_ _ | refine bset ?_ (by simp <;> omega) _ | refine bal ?_ _)) hb3
    have hz : w.heap.size ≤ w3.heap.size := hB.size
    go_wp2_with fail
    refine (lc _).mono ?_
    rintro e w4 ⟨rfl, hb4⟩
    have g0 : w4.cell? ⟨w.heap.size, 0, none⟩ = some (.int .i64 a) := bkeep hb4 (by first | assumption | exact cell_new (by with_reducible first | rfl | (simp; done) | (simp; omega)) rfl | (repeat (first | assumption | exact cell_new (by with_reducible first | rfl | (simp; done) | (simp; omega)) rfl | refine cell_alloc ?_ _ | refine cell_drew ?_ | refine cell_drewN ?_ _ | refine cell_far ?_ (by simp) _ | (refine cell_far ?_ (by simp <;> omega) _))) | simp [go_sem, *])
    have zg0 := cell_lt g0
    have g1 : w4.cell? ⟨w.heap.size, 1, none⟩ = some (.int .i64 b) := bkeep hb4 (by first | assumption | exact cell_new (by with_reducible first | rfl | (simp; done) | (simp; omega)) rfl | (repeat (first | assumption | exact cell_new (by with_reducible first | rfl | (simp; done) | (simp; omega)) rfl | refine cell_alloc ?_ _ | refine cell_drew ?_ | refine cell_drewN ?_ _ | refine cell_far ?_ (by simp) _ | (refine cell_far ?_ (by simp <;> omega) _))) | simp [go_sem, *])
    have hB : Below w.heap.size w w4 := bthen (by repeat (first | exact Below.refl _ _ | exact hB | refine Below.drew ?_ | refine below_drewN ?_ _ | refine bset ?_ (by simp <;> omega) _ | refine bal ?_ _)) hb4
    have hz : w.heap.size ≤ w4.heap.size := hB.size
    go_wp2
    go_ret
    exact ⟨rfl, hB⟩

theorem powF_bd (a b : Int) (n i : Nat) (hp : PIn a b) (hn : n ≤ 16) (hi : i < n) : Bd 200 (powF a b n i) := by
  unfold powF
  exact (((bd_pt hp.1 hp.2.1).pow i).mul ((bd_pt hp.2.2.1 hp.2.2.2).pow (n - 1 - i))).mono (by omega)
/-- of a point times t -/
theorem powF_times (a b t : Int) (n i : Nat) (hi : i < n) : powF (a * t) (b * t) n i = powF a b n i * t ^ (n - 1) := by
  unfold powF
  rw [Int.mul_pow, Int.mul_pow]
  have : t ^ (n - 1) = t ^ i * t ^ (n - 1 - i) := by rw [← Int.pow_add]; congr 1; omega
  rw [this]
  ac_rfl
theorem grow_below {w : World} (s : Grows w) : Below w.heap.size w (grow w s) := s.below
theorem bitN_16 {m : Nat} (h : m ≤ 16) : bitN m ≤ 5 := by
  unfold bitN
  split
  · omega
  · rename_i h0
    have := (Nat.log2_lt h0 (k := 5)).2 (by omega)
    omega
theorem cmpI_self {x y : Int} (h : x = y) : cmpI x y = 0 := by subst h; unfold cmpI; rw [if_neg (by omega), if_pos rfl]
theorem tmod17 (c : Int) : -16 ≤ c.tmod 17 ∧ c.tmod 17 ≤ 16 := by
  have h : (c.tmod 17).natAbs = c.natAbs % 17 := Int.natAbs_tmod c 17
  omega
theorem mul16 (a t : Int) (h1 : -16 ≤ a) (h2 : a ≤ 16) (h3 : -16 ≤ t) (h4 : t ≤ 16) : -256 ≤ a * t ∧ a * t ≤ 256 := by
  have := Int.natAbs_mul a t
  have h : a.natAbs * t.natAbs ≤ 16 * 16 := Nat.mul_le_mul (by omega) (by omega)
  omega

set_option maxRecDepth 100000 in
set_option maxHeartbeats 8000000 in
theorem powLaw_yes (a b c : Int) (n : Nat) (w : World) (hp : PIn a b) (hn : n ≤ 16) (hc1 : -9223372036854775808 ≤ c) (hc2 : c ≤ 9223372036854775807) :
    Calls Try.prog 7 #[pv a b, .int .i64 (n : Int), .int .i64 c] w fun e w' => e = .returned (.bool true) ∧ Below w.heap.size w w' := by
  have pc := fun w => ptPow_yes a b n w hp hn
  have rc := fun w => refPow_c a b n w hp hn
  have lc := live_c
  have ic : ∀ w, Calls Try.prog 9 #[pv a b] w fun e w' => e = .returned (.bool true) ∧ Below w.heap.size w w' := fun w => by rw [← inB_yes hp]; exact refIn_c a b w
  have hn0 : decide ((n : Int) < 0) = false := by simp
  have hn1 : decide (16 < (n : Int)) = false := by simp; omega
  have hnn : ((n : Int) != (n : Int)) = false := by simp
  go_enter Try.func7, Try.ntmps7
  go_wp2_with fail
  refine (lc _).mono ?_
  rintro e w1 ⟨rfl, hb1⟩
  have g0 : w1.cell? ⟨w.heap.size, 0, none⟩ = some (.int .i64 a) := bkeep hb1 (by first | assumption | exact cell_new (by with_reducible first | rfl | (simp; done) | (simp; omega)) rfl | (repeat (first | assumption | exact cell_new (by with_reducible first | rfl | (simp; done) | (simp; omega)) rfl | refine cell_alloc ?_ _ | refine cell_drew ?_ | refine cell_drewN ?_ _ | refine cell_far ?_ (by simp) _ | (refine cell_far ?_ (by simp <;> omega) _))) | simp [go_sem, *])
  have zg0 := cell_lt g0
  have g1 : w1.cell? ⟨w.heap.size, 1, none⟩ = some (.int .i64 b) := bkeep hb1 (by first | assumption | exact cell_new (by with_reducible first | rfl | (simp; done) | (simp; omega)) rfl | (repeat (first | assumption | exact cell_new (by with_reducible first | rfl | (simp; done) | (simp; omega)) rfl | refine cell_alloc ?_ _ | refine cell_drew ?_ | refine cell_drewN ?_ _ | refine cell_far ?_ (by simp) _ | (refine cell_far ?_ (by simp <;> omega) _))) | simp [go_sem, *])
  have hB : Below w.heap.size w w1 := bthen (by repeat (first | exact Below.refl _ _ | exact hB | refine Below.drew ?_ | refine below_drewN ?_ _ | refine bset ?_ (by simp <;> omega) _ | refine bal ?_ _)) hb1
  have hz : w.heap.size ≤ w1.heap.size := hB.size
  go_wp2_with fail
  refine (pc _).mono ?_
  rintro e w2 ⟨⟨g, rfl, hG2⟩, hb2⟩
  have g0 : w2.cell? ⟨w.heap.size, 0, none⟩ = some (.int .i64 a) := bkeep hb2 (by first | assumption | exact cell_new (by with_reducible first | rfl | (simp; done) | (simp; omega)) rfl | (repeat (first | assumption | exact cell_new (by with_reducible first | rfl | (simp; done) | (simp; omega)) rfl | refine cell_alloc ?_ _ | refine cell_drew ?_ | refine cell_drewN ?_ _ | refine cell_far ?_ (by simp) _ | (refine cell_far ?_ (by simp <;> omega) _))) | simp [go_sem, *])
  have zg0 := cell_lt g0
  have g1 : w2.cell? ⟨w.heap.size, 1, none⟩ = some (.int .i64 b) := bkeep hb2 (by first | assumption | exact cell_new (by with_reducible first | rfl | (simp; done) | (simp; omega)) rfl | (repeat (first | assumption | exact cell_new (by with_reducible first | rfl | (simp; done) | (simp; omega)) rfl | refine cell_alloc ?_ _ | refine cell_drew ?_ | refine cell_drewN ?_ _ | refine cell_far ?_ (by simp) _ | (refine cell_far ?_ (by simp <;> omega) _))) | simp [go_sem, *])
  have hB : Below w.heap.size w w2 := bthen (by repeat (first | exact Below.refl _ _ | exact hB | refine Below.drew ?_ | refine below_drewN ?_ _ | refine bset ?_ (by simp <;> omega) _ | refine bal ?_ _)) hb2
  have hz : w.heap.size ≤ w2.heap.size := hB.size
  go_wp2_with fail
  refine (ic _).mono ?_
  rintro e w3 ⟨rfl, hb3⟩
  have hG3 := hG2.keep lims_int hb3
  have g0 : w3.cell? ⟨w.heap.size, 0, none⟩ = some (.int .i64 a) := bkeep hb3 (by first | assumption | exact cell_new (by with_reducible first | rfl | (simp; done) | (simp; omega)) rfl | (repeat (first | assumption | exact cell_new (by with_reducible first | rfl | (simp; done) | (simp; omega)) rfl | refine cell_alloc ?_ _ | refine cell_drew ?_ | refine cell_drewN ?_ _ | refine cell_far ?_ (by simp) _ | (refine cell_far ?_ (by simp <;> omega) _))) | simp [go_sem, *])
  have zg0 := cell_lt g0
  have g1 : w3.cell? ⟨w.heap.size, 1, none⟩ = some (.int .i64 b) := bkeep hb3 (by first | assumption | exact cell_new (by with_reducible first | rfl | (simp; done) | (simp; omega)) rfl | (repeat (first | assumption | exact cell_new (by with_reducible first | rfl | (simp; done) | (simp; omega)) rfl | refine cell_alloc ?_ _ | refine cell_drew ?_ | refine cell_drewN ?_ _ | refine cell_far ?_ (by simp) _ | (refine cell_far ?_ (by simp <;> omega) _))) | simp [go_sem, *])
  have hB : Below w.heap.size w w3 := bthen (by repeat (first | exact Below.refl _ _ | exact hB | refine Below.drew ?_ | refine below_drewN ?_ _ | refine bset ?_ (by simp <;> omega) _ | refine bal ?_ _)) hb3
  have hz : w.heap.size ≤ w3.heap.size := hB.size
  go_wp2_with fail
  refine (rc _).mono ?_
  rintro e w4 ⟨v4, rfl, hO4⟩
  have hb4 := hO4.bel
  have hG4 := Lib.hid (hG3.keep lims_int hb4)
  have g0 : w4.cell? ⟨w.heap.size, 0, none⟩ = some (.int .i64 a) := bkeep hb4 (by first | assumption | exact cell_new (by with_reducible first | rfl | (simp; done) | (simp; omega)) rfl | (repeat (first | assumption | exact cell_new (by with_reducible first | rfl | (simp; done) | (simp; omega)) rfl | refine cell_alloc ?_ _ | refine cell_drew ?_ | refine cell_drewN ?_ _ | refine cell_far ?_ (by simp) _ | (refine cell_far ?_ (by simp <;> omega) _))) | simp [go_sem, *])
  have zg0 := cell_lt g0
  have g1 : w4.cell? ⟨w.heap.size, 1, none⟩ = some (.int .i64 b) := bkeep hb4 (by first | assumption | exact cell_new (by with_reducible first | rfl | (simp; done) | (simp; omega)) rfl | (repeat (first | assumption | exact cell_new (by with_reducible first | rfl | (simp; done) | (simp; omega)) rfl | refine cell_alloc ?_ _ | refine cell_drew ?_ | refine cell_drewN ?_ _ | refine cell_far ?_ (by simp) _ | (refine cell_far ?_ (by simp <;> omega) _))) | simp [go_sem, *])
  have hB : Below w.heap.size w w4 := bthen (by repeat (first | exact Below.refl _ _ | exact hB | refine Below.drew ?_ | refine below_drewN ?_ _ | refine bset ?_ (by simp <;> omega) _ | refine bal ?_ _)) hb4
  have hz : w.heap.size ≤ w4.heap.size := hB.size
  obtain ⟨a4, c4, rfl, -, -, hO4⟩ := hO4.view
  have HO4 := Lib.hid hO4
  have HB4 := Lib.hid hB
  clear hG2 hG3 hb2 hb3 hb4 pc rc ic hO4
  go_wp2
  have ist := fun vx vy j w (hj : j < n) h1 h2 => is_c vx vy (powF a b n j) (powF a b n j) 200 w h1 h2 (powF_bd a b n j hp hn hj) (by omega)
  simp only [decide_true] at ist
  have HF := Lib.hid (And.intro g0 (g1))
  clear g0 g1
  go_loopw [10] (fun y wr => ∃ j : Nat, j ≤ n ∧ y = .int .i64 j ∧ Below w4.heap.size w4 wr) (fun y _ => n - (intOf y).toNat)
  case atStart => exact ⟨0, Nat.zero_le _, rfl, Below.refl _ _⟩
  case round =>
    obtain ⟨j, hj, rfl, hB5⟩ := hrel
    obtain ⟨w5, rfl⟩ : ∃ w5, w5 = wr := ⟨_, rfl⟩
    have hB := bthen HB4.out hB5
    by_cases hjn : j < n
    · rcases HO4.out with h0 | ⟨g', rfl, -, hR⟩
      · omega
      obtain ⟨nb, ax, lx, cx, e0, e1, he⟩ := (hG4.out.keep lims_int hB5).at0 hjn
      obtain ⟨mb, bx, mx, dx, r0, r1, hr⟩ := (hR.keep lims_ref hB5).at0 hjn
      have HE := Lib.hid he
      have HR := Lib.hid hr
      clear he hr hR
      have istj := fun vx vy w => ist vx vy j w hjn
      have hjn' : (j : Int) < (n : Int) := by omega
      go_wp2
      refine wp_region_grow (w := w5) (by kernel_rfl) (by kernel_rfl) ?_
      have e0g : ∀ gs, (grow w5 gs).cell? ⟨g, j * 2, none⟩ = some (.bool nb) := fun gs => bkeep gs.below e0
      have e1g : ∀ gs, (grow w5 gs).cell? ⟨g, j * 2 + 1, none⟩ = some (.slice ax lx cx) := fun gs => bkeep gs.below e1
      have r0g : ∀ gs, (grow w5 gs).cell? ⟨g', j * 2, none⟩ = some (.bool mb) := fun gs => bkeep gs.below r0
      have r1g : ∀ gs, (grow w5 gs).cell? ⟨g', j * 2 + 1, none⟩ = some (.slice bx mx dx) := fun gs => bkeep gs.below r1
      repeat (go_big_quiet_step ((go_at_call 27; refine grow_of (istj _ _ _ (HE.out.keep (grow_below _)) (HR.out.keep (grow_below _))))))
      refine wpQuiet_nil ?_
      intro w6 hb6
      clear e0g
      clear e1g
      clear r0g
      clear r1g
      have e0 : w6.cell? ⟨g, j * 2, none⟩ = some (.bool nb) := bkeep hb6 (by first | assumption | exact cell_new (by with_reducible first | rfl | (simp; done) | (simp; omega)) rfl | (repeat (first | assumption | exact cell_new (by with_reducible first | rfl | (simp; done) | (simp; omega)) rfl | refine cell_alloc ?_ _ | refine cell_drew ?_ | refine cell_drewN ?_ _ | refine cell_far ?_ (by simp) _ | (refine cell_far ?_ (by simp <;> omega) _))) | simp [go_sem, *])
      have ze0 := cell_lt e0
      have e1 : w6.cell? ⟨g, j * 2 + 1, none⟩ = some (.slice ax lx cx) := bkeep hb6 (by first | assumption | exact cell_new (by with_reducible first | rfl | (simp; done) | (simp; omega)) rfl | (repeat (first | assumption | exact cell_new (by with_reducible first | rfl | (simp; done) | (simp; omega)) rfl | refine cell_alloc ?_ _ | refine cell_drew ?_ | refine cell_drewN ?_ _ | refine cell_far ?_ (by simp) _ | (refine cell_far ?_ (by simp <;> omega) _))) | simp [go_sem, *])
      have r0 : w6.cell? ⟨g', j * 2, none⟩ = some (.bool mb) := bkeep hb6 (by first | assumption | exact cell_new (by with_reducible first | rfl | (simp; done) | (simp; omega)) rfl | (repeat (first | assumption | exact cell_new (by with_reducible first | rfl | (simp; done) | (simp; omega)) rfl | refine cell_alloc ?_ _ | refine cell_drew ?_ | refine cell_drewN ?_ _ | refine cell_far ?_ (by simp) _ | (refine cell_far ?_ (by simp <;> omega) _))) | simp [go_sem, *])
      have zr0 := cell_lt r0
      have r1 : w6.cell? ⟨g', j * 2 + 1, none⟩ = some (.slice bx mx dx) := bkeep hb6 (by first | assumption | exact cell_new (by with_reducible first | rfl | (simp; done) | (simp; omega)) rfl | (repeat (first | assumption | exact cell_new (by with_reducible first | rfl | (simp; done) | (simp; omega)) rfl | refine cell_alloc ?_ _ | refine cell_drew ?_ | refine cell_drewN ?_ _ | refine cell_far ?_ (by simp) _ | (refine cell_far ?_ (by simp <;> omega) _))) | simp [go_sem, *])
      have hB : Below w.heap.size w w6 := bthen (by repeat (first | exact Below.refl _ _ | exact hB | refine Below.drew ?_ | refine below_drewN ?_ _ | refine bset ?_ (by simp <;> omega) _ | refine bal ?_ _)) hb6
      have hz : w.heap.size ≤ w6.heap.size := hB.size
      go_wp2
      exact ⟨⟨j + 1, by omega, by go_num, bthen hB5 hb6⟩, by simp [intOf]; omega⟩
    · obtain rfl : j = n := by omega
      clear ist
      have hG5 := Lib.hid (hG4.out.keep lims_int hB5)
      obtain ⟨g0, g1⟩ := HF.out
      replace g0 := bkeep hB5 g0
      replace g1 := bkeep hB5 g1
      clear HO4 HB4 hG4 HF hB5
      obtain ⟨t, ht⟩ : ∃ t, c.tmod 17 = t := ⟨_, rfl⟩
      have ht17 := tmod17 c
      rw [ht] at ht17
      obtain ⟨t1, t2⟩ := ht17
      have m1 := mul16 a t hp.1 hp.2.1 t1 t2
      have m2 := mul16 b t hp.2.2.1 hp.2.2.2 t1 t2
      have iq : ∀ w, Calls Try.prog 9 #[.agg #[.int .i64 (a * t), .int .i64 (b * t)]] w fun e w' => e = .returned (.bool (inB (a * t) (b * t))) ∧ Below w.heap.size w w' := fun w => refIn_c (a * t) (b * t) w
      have HFT := Lib.hid (powF_times a b t j)
      have HFB := Lib.hid (powF_bd a b j · hp hn)
      generalize hA : a * t = A at *
      generalize hBt : b * t = B at *
      have hz5 := hB.size
      by_cases hq : PIn A B
      · rw [inB_yes hq] at iq
        by_cases h1 : j = 0
        · subst h1
          go_wp2_with fail
          refine (iq _).mono ?_
          rintro e w7 ⟨rfl, hb7⟩
          have g0 : w7.cell? ⟨w.heap.size, 0, none⟩ = some (.int .i64 a) := bkeep hb7 (by first | assumption | exact cell_new (by with_reducible first | rfl | (simp; done) | (simp; omega)) rfl | (repeat (first | assumption | exact cell_new (by with_reducible first | rfl | (simp; done) | (simp; omega)) rfl | refine cell_alloc ?_ _ | refine cell_drew ?_ | refine cell_drewN ?_ _ | refine cell_far ?_ (by simp) _ | (refine cell_far ?_ (by simp <;> omega) _))) | simp [go_sem, *])
          have zg0 := cell_lt g0
          have g1 : w7.cell? ⟨w.heap.size, 1, none⟩ = some (.int .i64 b) := bkeep hb7 (by first | assumption | exact cell_new (by with_reducible first | rfl | (simp; done) | (simp; omega)) rfl | (repeat (first | assumption | exact cell_new (by with_reducible first | rfl | (simp; done) | (simp; omega)) rfl | refine cell_alloc ?_ _ | refine cell_drew ?_ | refine cell_drewN ?_ _ | refine cell_far ?_ (by simp) _ | (refine cell_far ?_ (by simp <;> omega) _))) | simp [go_sem, *])
          have hB : Below w.heap.size w w7 := bthen (by repeat (first | exact Below.refl _ _ | exact hB | refine Below.drew ?_ | refine below_drewN ?_ _ | refine bset ?_ (by simp <;> omega) _ | refine bal ?_ _)) hb7
          have hz : w.heap.size ≤ w7.heap.size := hB.size
          go_wp2
          go_ret
          exact ⟨rfl, hB⟩
        · have hj1 : decide ((j : Int) < 1) = false := by simp; omega
          have hm1 : IntKind.i64.wrap ((j : Int) - 1) = ((j - 1 : Nat) : Int) := by rw [IntKind.wrap_i64]; omega
          have pq := fun w => ptPow_yes A B j w hq hn
          have oc := fun w => of_c t w (by omega) (by omega)
          have kc := fun v w h => pow_c v t (j - 1) w h (by have h1 := bitN_16 (by omega : t.natAbs ≤ 16); have h2 := Nat.mul_le_mul (show j - 1 ≤ 16 by omega) h1; omega) (by have h1 := bitN_16 (by omega : t.natAbs ≤ 16); omega) (by omega)
          go_wp2_with fail
          refine (iq _).mono ?_
          rintro e w7 ⟨rfl, hb7⟩
          have q0 : w7.cell? ⟨w5.heap.size, 0, none⟩ = some (.int .i64 A) := bkeep hb7 (by first | assumption | exact cell_new (by with_reducible first | rfl | (simp; done) | (simp; omega)) rfl | (repeat (first | assumption | exact cell_new (by with_reducible first | rfl | (simp; done) | (simp; omega)) rfl | refine cell_alloc ?_ _ | refine cell_drew ?_ | refine cell_drewN ?_ _ | refine cell_far ?_ (by simp) _ | (refine cell_far ?_ (by simp <;> omega) _))) | simp [go_sem, *])
          have zq0 := cell_lt q0
          have q1 : w7.cell? ⟨w5.heap.size, 1, none⟩ = some (.int .i64 B) := bkeep hb7 (by first | assumption | exact cell_new (by with_reducible first | rfl | (simp; done) | (simp; omega)) rfl | (repeat (first | assumption | exact cell_new (by with_reducible first | rfl | (simp; done) | (simp; omega)) rfl | refine cell_alloc ?_ _ | refine cell_drew ?_ | refine cell_drewN ?_ _ | refine cell_far ?_ (by simp) _ | (refine cell_far ?_ (by simp <;> omega) _))) | simp [go_sem, *])
          have hB : Below w.heap.size w w7 := bthen (by repeat (first | exact Below.refl _ _ | exact hB | refine Below.drew ?_ | refine below_drewN ?_ _ | refine bset ?_ (by simp <;> omega) _ | refine bal ?_ _)) hb7
          have hz : w.heap.size ≤ w7.heap.size := hB.size
          have hG7 := hG5.out.keep lims_int (bthen (bal (Below.refl _ _) _) hb7)
          go_wp2_with fail
          refine (pq _).mono ?_
          rintro e w8 ⟨⟨g2, rfl, hM8⟩, hb8⟩
          have hG8 := hG7.keep lims_int hb8
          have q0 : w8.cell? ⟨w5.heap.size, 0, none⟩ = some (.int .i64 A) := bkeep hb8 (by first | assumption | exact cell_new (by with_reducible first | rfl | (simp; done) | (simp; omega)) rfl | (repeat (first | assumption | exact cell_new (by with_reducible first | rfl | (simp; done) | (simp; omega)) rfl | refine cell_alloc ?_ _ | refine cell_drew ?_ | refine cell_drewN ?_ _ | refine cell_far ?_ (by simp) _ | (refine cell_far ?_ (by simp <;> omega) _))) | simp [go_sem, *])
          have zq0 := cell_lt q0
          have q1 : w8.cell? ⟨w5.heap.size, 1, none⟩ = some (.int .i64 B) := bkeep hb8 (by first | assumption | exact cell_new (by with_reducible first | rfl | (simp; done) | (simp; omega)) rfl | (repeat (first | assumption | exact cell_new (by with_reducible first | rfl | (simp; done) | (simp; omega)) rfl | refine cell_alloc ?_ _ | refine cell_drew ?_ | refine cell_drewN ?_ _ | refine cell_far ?_ (by simp) _ | (refine cell_far ?_ (by simp <;> omega) _))) | simp [go_sem, *])
          have hB : Below w.heap.size w w8 := bthen (by repeat (first | exact Below.refl _ _ | exact hB | refine Below.drew ?_ | refine below_drewN ?_ _ | refine bset ?_ (by simp <;> omega) _ | refine bal ?_ _)) hb8
          have hz : w.heap.size ≤ w8.heap.size := hB.size
          go_wp2_with fail
          refine (oc _).mono ?_
          rintro e w9 ⟨⟨v9, rfl, hi9⟩, hb9⟩
          have hG9 := hG8.keep lims_int hb9
          have hM9 := hM8.keep lims_int hb9
          have q0 : w9.cell? ⟨w5.heap.size, 0, none⟩ = some (.int .i64 A) := bkeep hb9 (by first | assumption | exact cell_new (by with_reducible first | rfl | (simp; done) | (simp; omega)) rfl | (repeat (first | assumption | exact cell_new (by with_reducible first | rfl | (simp; done) | (simp; omega)) rfl | refine cell_alloc ?_ _ | refine cell_drew ?_ | refine cell_drewN ?_ _ | refine cell_far ?_ (by simp) _ | (refine cell_far ?_ (by simp <;> omega) _))) | simp [go_sem, *])
          have zq0 := cell_lt q0
          have q1 : w9.cell? ⟨w5.heap.size, 1, none⟩ = some (.int .i64 B) := bkeep hb9 (by first | assumption | exact cell_new (by with_reducible first | rfl | (simp; done) | (simp; omega)) rfl | (repeat (first | assumption | exact cell_new (by with_reducible first | rfl | (simp; done) | (simp; omega)) rfl | refine cell_alloc ?_ _ | refine cell_drew ?_ | refine cell_drewN ?_ _ | refine cell_far ?_ (by simp) _ | (refine cell_far ?_ (by simp <;> omega) _))) | simp [go_sem, *])
          have hB : Below w.heap.size w w9 := bthen (by repeat (first | exact Below.refl _ _ | exact hB | refine Below.drew ?_ | refine below_drewN ?_ _ | refine bset ?_ (by simp <;> omega) _ | refine bal ?_ _)) hb9
          have hz : w.heap.size ≤ w9.heap.size := hB.size
          go_wp2_with fail
          refine (kc _ _ hi9).mono ?_
          rintro e w10 ⟨⟨v10, rfl, hi10⟩, hb10⟩
          have hG10 := Lib.hid (hG9.keep lims_int hb10)
          have hM10 := Lib.hid (hM9.keep lims_int hb10)
          have q0 : w10.cell? ⟨w5.heap.size, 0, none⟩ = some (.int .i64 A) := bkeep hb10 (by first | assumption | exact cell_new (by with_reducible first | rfl | (simp; done) | (simp; omega)) rfl | (repeat (first | assumption | exact cell_new (by with_reducible first | rfl | (simp; done) | (simp; omega)) rfl | refine cell_alloc ?_ _ | refine cell_drew ?_ | refine cell_drewN ?_ _ | refine cell_far ?_ (by simp) _ | (refine cell_far ?_ (by simp <;> omega) _))) | simp [go_sem, *])
          have zq0 := cell_lt q0
          have q1 : w10.cell? ⟨w5.heap.size, 1, none⟩ = some (.int .i64 B) := bkeep hb10 (by first | assumption | exact cell_new (by with_reducible first | rfl | (simp; done) | (simp; omega)) rfl | (repeat (first | assumption | exact cell_new (by with_reducible first | rfl | (simp; done) | (simp; omega)) rfl | refine cell_alloc ?_ _ | refine cell_drew ?_ | refine cell_drewN ?_ _ | refine cell_far ?_ (by simp) _ | (refine cell_far ?_ (by simp <;> omega) _))) | simp [go_sem, *])
          have hB : Below w.heap.size w w10 := bthen (by repeat (first | exact Below.refl _ _ | exact hB | refine Below.drew ?_ | refine below_drewN ?_ _ | refine bset ?_ (by simp <;> omega) _ | refine bal ?_ _)) hb10
          have hz : w.heap.size ≤ w10.heap.size := hB.size
          have HK := Lib.hid hi10
          obtain ⟨n10, a10, c10, l10, rfl, -⟩ := hi10
          unfold iv at *
          clear hG7 hG8 hG9 hM8 hM9 hi9 hb7 hb8 hb9 hb10 pq oc kc iq
          go_wp2
          refine wp_name fun w11 hW11 => ?_
          have k0 : w11.cell? ⟨w10.heap.size, 0, none⟩ = some (.bool n10) := by rw [hW11]; exact (by first | assumption | exact cell_new (by with_reducible first | rfl | (simp; done) | (simp; omega)) rfl | (repeat (first | assumption | exact cell_new (by with_reducible first | rfl | (simp; done) | (simp; omega)) rfl | refine cell_alloc ?_ _ | refine cell_drew ?_ | refine cell_drewN ?_ _ | refine cell_far ?_ (by simp) _ | (refine cell_far ?_ (by simp <;> omega) _))) | simp [go_sem, *])
          have zk0 := cell_lt k0
          have k1 : w11.cell? ⟨w10.heap.size, 1, none⟩ = some (.slice a10 l10.length c10) := by rw [hW11]; exact (by first | assumption | exact cell_new (by with_reducible first | rfl | (simp; done) | (simp; omega)) rfl | (repeat (first | assumption | exact cell_new (by with_reducible first | rfl | (simp; done) | (simp; omega)) rfl | refine cell_alloc ?_ _ | refine cell_drew ?_ | refine cell_drewN ?_ _ | refine cell_far ?_ (by simp) _ | (refine cell_far ?_ (by simp <;> omega) _))) | simp [go_sem, *])
          have hB : Below w.heap.size w w11 := by rw [hW11]; repeat (first | exact Below.refl _ _ | exact hB | refine Below.drew ?_ | refine below_drewN ?_ _ | refine bset ?_ (by simp <;> omega) _ | refine bal ?_ _)
          have hb11 : Below w10.heap.size w10 w11 := by rw [hW11]; exact bal (Below.refl _ _) _
          have hz : w.heap.size ≤ w11.heap.size := hB.size
          clear hW11
          have HG := Lib.hid (hG10.out.keep lims_int hb11)
          have HM := Lib.hid (hM10.out.keep lims_int hb11)
          have HKK := Lib.hid (HK.out.keep hb11)
          have HB11 := Lib.hid hB
          clear hb11 hG10 hM10 HK q0 q1
          generalize w10.heap.size = kb at *
          have HKC := Lib.hid (And.intro k0 (k1))
          clear k0 k1
          have mc := fun u v w x (bx : Bd 200 x) h1 h2 => mul_c u v x (t ^ (j - 1)) 200 (j * 5 + 1) w h1 h2 bx (((bd_pt t1 t2).pow (j - 1)).mono (by omega)) (by omega) (by omega)
          have cc := fun u v x y (h : x = y) w h1 h2 => cmp_c u v x y w h1 h2
          go_loopw [15] (fun y wr => ∃ i : Nat, i ≤ j ∧ y = .int .i64 i ∧ Below w11.heap.size w11 wr) (fun y _ => j - (intOf y).toNat)
          case atStart => exact ⟨0, Nat.zero_le _, rfl, Below.refl _ _⟩
          case round =>
            rename World => wi
            obtain ⟨i, hi, rfl, hB12⟩ := hrel
            by_cases hij : i < j
            · obtain ⟨nb, ax, lx, cx, e0, e1, he⟩ := (HG.out.keep lims_int hB12).at0 hij
              obtain ⟨mb, bx, mx, dx, r0, r1, hr⟩ := (HM.out.keep lims_int hB12).at0 hij
              obtain ⟨k0, k1⟩ := HKC.out
              replace k0 := bkeep hB12 k0
              replace k1 := bkeep hB12 k1
              have HE := Lib.hid he
              have HR := Lib.hid hr
              have HK2 := Lib.hid (HKK.out.keep hB12)
              have HBd := Lib.hid (HFB.out i hij)
              have HXY := Lib.hid (cmpI_self (HFT.out i hij))
              have cc0 := fun u v w h1 h2 => cmp_c u v (powF A B j i) (powF a b j i * t ^ (j - 1)) w h1 h2
              rw [HXY.out] at cc0
              have hij' : (i : Int) < (j : Int) := by omega
              have hBc : Below wi.heap.size wi wi.drew := (Below.refl _ _).drew
              clear he hr
              go_wp2
              go_region_held3 (fun w' => w'.cell? ⟨g, i * 2, none⟩ = some (.bool nb) ∧ w'.cell? ⟨g, i * 2 + 1, none⟩ = some (.slice ax lx cx) ∧ w'.cell? ⟨g2, i * 2, none⟩ = some (.bool mb) ∧ w'.cell? ⟨g2, i * 2 + 1, none⟩ = some (.slice bx mx dx) ∧ w'.cell? ⟨kb, 0, none⟩ = some (.bool n10) ∧ w'.cell? ⟨kb, 1, none⟩ = some (.slice a10 l10.length c10))
                (first | exact ⟨e0, e1, r0, r1, k0, k1⟩ | exact ⟨bkeep hBc e0, bkeep hBc e1, bkeep hBc r0, bkeep hBc r1, bkeep hBc k0, bkeep hBc k1⟩)
                (first
                  | (go_at_call 31; refine (mc _ _ _ _ HBd.out (HE.out.keep hBc) (HK2.out.keep hBc)).mono ?_; rintro e w13 ⟨⟨v13, rfl, hi13⟩, hb13⟩; (replace hBc := bthen hBc hb13); (have HI13 := Lib.hid hi13); clear hi13)
                  | (go_at_call 30; refine (cc0 _ _ _ (HR.out.keep hBc) HI13.out).mono ?_; rintro e w14 ⟨rfl, hb14⟩; (replace hBc := bthen hBc hb14)))
              go_wp2
              exact ⟨⟨i + 1, by omega, by go_num, bthen hB12 hBc⟩, by simp [intOf]; omega⟩
            · obtain rfl : i = j := by omega
              go_wp2
              go_ret
              exact ⟨rfl, bthen HB11.out hB12⟩
      · rw [inB_no hq] at iq
        clear hq
        go_wp2_with fail
        refine (iq _).mono ?_
        rintro e w7 ⟨rfl, hb7⟩
        have g0 : w7.cell? ⟨w.heap.size, 0, none⟩ = some (.int .i64 a) := bkeep hb7 (by first | assumption | exact cell_new (by with_reducible first | rfl | (simp; done) | (simp; omega)) rfl | (repeat (first | assumption | exact cell_new (by with_reducible first | rfl | (simp; done) | (simp; omega)) rfl | refine cell_alloc ?_ _ | refine cell_drew ?_ | refine cell_drewN ?_ _ | refine cell_far ?_ (by simp) _ | (refine cell_far ?_ (by simp <;> omega) _))) | simp [go_sem, *])
        have zg0 := cell_lt g0
        have g1 : w7.cell? ⟨w.heap.size, 1, none⟩ = some (.int .i64 b) := bkeep hb7 (by first | assumption | exact cell_new (by with_reducible first | rfl | (simp; done) | (simp; omega)) rfl | (repeat (first | assumption | exact cell_new (by with_reducible first | rfl | (simp; done) | (simp; omega)) rfl | refine cell_alloc ?_ _ | refine cell_drew ?_ | refine cell_drewN ?_ _ | refine cell_far ?_ (by simp) _ | (refine cell_far ?_ (by simp <;> omega) _))) | simp [go_sem, *])
        have hB : Below w.heap.size w w7 := bthen (by repeat (first | exact Below.refl _ _ | exact hB | refine Below.drew ?_ | refine below_drewN ?_ _ | refine bset ?_ (by simp <;> omega) _ | refine bal ?_ _)) hb7
        have hz : w.heap.size ≤ w7.heap.size := hB.size
        go_wp2
        go_ret
        exact ⟨rfl, hB⟩
theorem powLaw_c (a b n c : Int) (w : World) (hc1 : -9223372036854775808 ≤ c) (hc2 : c ≤ 9223372036854775807) :
    Calls Try.prog 7 #[pv a b, .int .i64 n, .int .i64 c] w fun e w' => e = .returned (.bool true) ∧ Below w.heap.size w w' := by
  by_cases h : PIn a b ∧ 0 ≤ n ∧ n ≤ 16
  · obtain ⟨k, rfl⟩ := Int.eq_ofNat_of_zero_le h.2.1
    exact powLaw_yes a b c k w h.1 (by omega) hc1 hc2
  · exact powLaw_no a b n c w h
theorem powRow_c (a b n c : Int) (w : World) (hn : (Lit.int .i64 n).wf = true) (hc : (Lit.int .i64 c).wf = true) :
    Calls Try.prog 7 #[pv a b, .int .i64 n, .int .i64 c] w fun e w' => e = .returned (.bool true) ∧ Below w.heap.size w w' := by
  have h : IntKind.i64.min ≤ c ∧ c ≤ 9223372036854775807 := by simpa [Lit.wf] using hc
  have e : IntKind.i64.min = -9223372036854775808 := rfl
  rw [e] at h
  exact powLaw_c a b n c w (by omega) (by omega)
end Go.Proofs.Ytefoljempkpmgaa
