/- The law PointTwins, for every list of points. -/
import Derived.Test.YtefoljempkpmgaaPtTwins
namespace Go.Proofs.Ytefoljempkpmgaa
open Pt
open Go.ChangeShapes Go.WideShapes Go.ChangeAt Go.RowKit
set_option linter.unusedVariables false
set_option linter.unusedSimpArgs false

theorem ptTwins_0 (a : Option Addr) (cap : Nat) (f : Nat → Int × Int) (w : World) :
    Calls Try.prog 19 #[.slice a 0 cap] w fun e w' => Ret3 (TwRes f 0) e ∧ Below w.heap.size w w' := by
  go_enter Try.func19, Try.ntmps19
  go_wp2
  refine wp_loop_rounds 1 ?_
  rw [rounds_succ]
  go_wp2
  go_ret3
  exact ⟨⟨_, _, _, rfl, .inr ⟨rfl, rfl, rfl, fun j' hj => by omega⟩⟩, Below.refl _ _⟩
theorem refTwins_0 (a : Option Addr) (cap : Nat) (f : Nat → Int × Int) (w : World) :
    Calls Try.prog 20 #[.slice a 0 cap] w fun e w' => Ret3 (TwRes f 0) e ∧ Below w.heap.size w w' := by
  go_enter Try.func20, Try.ntmps20
  go_wp2
  refine wp_loop_rounds 1 ?_
  rw [rounds_succ]
  go_wp2
  go_ret3
  exact ⟨⟨_, _, _, rfl, .inr ⟨rfl, rfl, rfl, fun j' hj => by omega⟩⟩, Below.refl _ _⟩

theorem ptTwins_v (a : Option Addr) (n cap : Nat) (f : Nat → Int × Int) (w : World) (hn : n ≤ 300) (h : PtsV w a n cap f) :
    Calls Try.prog 19 #[.slice a n cap] w fun e w' => Ret3 (TwRes f n) e ∧ Below w.heap.size w w' := by
  rcases h with rfl | ⟨b, off, rfl, h2, h3⟩
  · exact ptTwins_0 a cap f w
  · exact ptTwins_c b off n cap f w hn h2 h3
theorem refTwins_v (a : Option Addr) (n cap : Nat) (f : Nat → Int × Int) (w : World) (hn : n ≤ 300) (h : PtsV w a n cap f) :
    Calls Try.prog 20 #[.slice a n cap] w fun e w' => Ret3 (TwRes f n) e ∧ Below w.heap.size w w' := by
  rcases h with rfl | ⟨b, off, rfl, h2, h3⟩
  · exact refTwins_0 a cap f w
  · exact refTwins_c b off n cap f w hn h2 h3

set_option maxRecDepth 100000 in
set_option maxHeartbeats 1000000 in
theorem twins_c (a : Option Addr) (n cap : Nat) (w : World) (f : Nat → Int × Int) (hm : n ≤ maxLen) (h : PtsV w a n cap f) :
    Calls Try.prog 4 #[.slice a n cap] w fun e w' => e = .returned (.bool true) ∧ Below w.heap.size w w' := by
  unfold maxLen at hm
  have lc := live_c
  by_cases hl : 300 < n
  ·
    go_enter Try.func4, Try.ntmps4
    go_wp2_with fail
    refine (lc _).mono ?_
    rintro e w1 ⟨rfl, hb1⟩
    have hB : Below w.heap.size w w1 := bthen (by repeat (first | exact Below.refl _ _ | exact hB | refine Below.drew ?_ | refine below_drewN ?_ _ | refine bset ?_ (by simp <;> omega) _ | refine bal ?_ _)) hb1
    have hz : w.heap.size ≤ w1.heap.size := hB.size
    clear hb1
    go_wp2
    go_ret
    exact ⟨rfl, hB⟩
  ·
    go_enter Try.func4, Try.ntmps4
    go_wp2_with fail
    refine (lc _).mono ?_
    rintro e w1 ⟨rfl, hb1⟩
    have hB : Below w.heap.size w w1 := bthen (by repeat (first | exact Below.refl _ _ | exact hB | refine Below.drew ?_ | refine below_drewN ?_ _ | refine bset ?_ (by simp <;> omega) _ | refine bal ?_ _)) hb1
    have hz : w.heap.size ≤ w1.heap.size := hB.size
    clear hb1
    go_wp2_with fail
    refine (ptTwins_v a n cap f _ (by omega) (h.keep hB)).mono ?_
    rintro e w2 ⟨⟨x, y, ok, rfl, hr⟩, hb2⟩
    have hB : Below w.heap.size w w2 := bthen (by repeat (first | exact Below.refl _ _ | exact hB | refine Below.drew ?_ | refine below_drewN ?_ _ | refine bset ?_ (by simp <;> omega) _ | refine bal ?_ _)) hb2
    have hz : w.heap.size ≤ w2.heap.size := hB.size
    clear hb2
    go_wp2_with fail
    refine (refTwins_v a n cap f _ (by omega) (h.keep hB)).mono ?_
    rintro e w3 ⟨⟨x', y', ok', rfl, hr'⟩, hb3⟩
    have hB : Below w.heap.size w w3 := bthen (by repeat (first | exact Below.refl _ _ | exact hB | refine Below.drew ?_ | refine below_drewN ?_ _ | refine bset ?_ (by simp <;> omega) _ | refine bal ?_ _)) hb3
    have hz : w.heap.size ≤ w3.heap.size := hB.size
    clear hb3
    obtain ⟨rfl, rfl, rfl⟩ := hr.unique hr'
    clear hr hr'
    go_wp2_with fail
    refine (lc _).mono ?_
    rintro e w4 ⟨rfl, hb4⟩
    have hB : Below w.heap.size w w4 := bthen (by repeat (first | exact Below.refl _ _ | exact hB | refine Below.drew ?_ | refine below_drewN ?_ _ | refine bset ?_ (by simp <;> omega) _ | refine bal ?_ _)) hb4
    have hz : w.heap.size ≤ w4.heap.size := hB.size
    clear hb4
    go_wp2
    go_ret
    exact ⟨rfl, hB⟩
end Go.Proofs.Ytefoljempkpmgaa
