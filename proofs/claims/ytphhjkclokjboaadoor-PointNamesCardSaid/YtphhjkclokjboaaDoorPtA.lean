/- The small functions of point and of its reference: what each answers. -/
import Derived.Test.YtphhjkclokjboaaDoorLib
import Derived.Test.YtphhjkclokjboaaDoorPtLaw
namespace Go.Proofs.YtphhjkclokjboaaDoor
open Pt
open Go.ChangeShapes Go.WideShapes Go.ChangeAt Go.RowKit
set_option linter.unusedVariables false
set_option linter.unusedSimpArgs false

theorem within_c (x : Int) (w : World) :
    Calls Tryd.prog 34 #[.int .i64 x] w fun e w' => e = .returned (.bool (wi x)) ∧ w = w' := by
  go_enter Tryd.func34, Tryd.ntmps34
  go_wp2
  all_goals go_ret
  all_goals exact ⟨ret_bool (by rw [Bool.eq_iff_iff]; simp [wi] <;> omega), rfl⟩

theorem amount_c (x : Int) (w : World) (h1 : -1000000 ≤ x) (h2 : x ≤ 1000000) :
    Calls Tryd.prog 48 #[.int .i64 x] w fun e w' => e = .returned (.int .i64 (x.natAbs : Int)) ∧ w = w' := by
  by_cases h : x < 0
  · have e : (x.natAbs : Int) = -x := by omega
    rw [e]; clear e
    go_enter Tryd.func48, Tryd.ntmps48
    go_wp2
    go_ret
    exact ⟨rfl, rfl⟩
  · have e : (x.natAbs : Int) = x := by omega
    rw [e]; clear e
    go_enter Tryd.func48, Tryd.ntmps48
    go_wp2
    go_ret
    exact ⟨rfl, rfl⟩
theorem amount_any (x : Int) (w : World) :
    Calls Tryd.prog 48 #[.int .i64 x] w fun e w' => (∃ n, e = .returned (.int .i64 n)) ∧ w = w' := by
  go_enter Tryd.func48, Tryd.ntmps48
  go_wp2
  all_goals go_ret
  all_goals exact ⟨⟨_, rfl⟩, rfl⟩

/-- Euclid's steps -/
def eu (a b : Int) : Int := if h : b = 0 then a else eu b (a.tmod b)
termination_by b.natAbs
decreasing_by rw [Int.natAbs_tmod]; exact Nat.mod_lt _ (by omega)
theorem tmod_lt (a b : Int) (h : b ≠ 0) : (a.tmod b).natAbs < b.natAbs := by rw [Int.natAbs_tmod]; exact Nat.mod_lt _ (by omega)
theorem tmod_bd (a b : Int) : (a.tmod b).natAbs ≤ a.natAbs := by rw [Int.natAbs_tmod]; exact Nat.mod_le _ _
theorem gcd_tmod (a b : Int) : Int.gcd b (a.tmod b) = Int.gcd a b := by
  show Nat.gcd b.natAbs (a.tmod b).natAbs = Nat.gcd a.natAbs b.natAbs
  rw [Int.natAbs_tmod, Nat.gcd_comm, ← Nat.gcd_rec, Nat.gcd_comm]

theorem common_c (x y : Int) (w : World) (h1 : -1000 ≤ x) (h2 : x ≤ 1000) (h3 : -1000 ≤ y) (h4 : y ≤ 1000) :
    Calls Tryd.prog 29 #[.int .i64 x, .int .i64 y] w fun e w' => e = .returned (.int .i64 (Int.gcd x y)) ∧ Below w.heap.size w w' := by
  go_enter Tryd.func29, Tryd.ntmps29
  go_wp2
  go_loopw [0, 1] (fun a b wr => ∃ p q : Int, a = .int .i64 p ∧ b = .int .i64 q ∧ -1000 ≤ p ∧ p ≤ 1000 ∧ -1000 ≤ q ∧ q ≤ 1000 ∧ Int.gcd p q = Int.gcd x y ∧ Below w.heap.size w wr) (fun _ b _ => (intOf b).natAbs)
  case atStart => exact ⟨x, y, rfl, rfl, h1, h2, h3, h4, rfl, Below.refl _ _⟩
  case round =>
    obtain ⟨p, q, rfl, rfl, p1, p2, q1, q2, hg, hb⟩ := hrel
    have HG := Lib.hid hg; clear hg
    by_cases hq : q = 0
    · subst hq
      go_wp2_with (go_at_call 48; refine (amount_c _ _ (by omega) (by omega)).mono ?_; rintro e w' ⟨rfl, rfl⟩)
      go_ret
      have := HG.out
      simp at this
      exact ⟨by simp [← this], hb⟩
    · have T1 := Lib.hid (tmod_lt p q hq)
      have T2 := Lib.hid (tmod_bd p q)
      go_wp2
      go_quiet (fail)
      go_wp2
      have := T1.out
      have := T2.out
      exact ⟨⟨q, _, rfl, rfl, q1, q2, by omega, by omega, (gcd_tmod p q).trans HG.out, below_drewN hb _⟩, by simpa [intOf] using T1.out⟩

theorem common_any (x y : Int) (w : World) :
    Calls Tryd.prog 29 #[.int .i64 x, .int .i64 y] w fun e w' => (∃ n, e = .returned (.int .i64 n)) ∧ Below w.heap.size w w' := by
  go_enter Tryd.func29, Tryd.ntmps29
  go_wp2
  go_loopw [0, 1] (fun a b wr => ∃ p q : Int, a = .int .i64 p ∧ b = .int .i64 q ∧ Below w.heap.size w wr) (fun _ b _ => (intOf b).natAbs)
  case atStart => exact ⟨x, y, rfl, rfl, Below.refl _ _⟩
  case round =>
    obtain ⟨p, q, rfl, rfl, hb⟩ := hrel
    by_cases hq : q = 0
    · subst hq
      go_wp2_with (go_at_call 48; refine (amount_any _ _).mono ?_; rintro e w' ⟨⟨n, rfl⟩, rfl⟩)
      go_ret
      exact ⟨⟨n, rfl⟩, hb⟩
    · have T1 := Lib.hid (tmod_lt p q hq)
      go_wp2
      go_quiet (fail)
      go_wp2
      exact ⟨⟨q, _, rfl, rfl, below_drewN hb _⟩, by simpa [intOf] using T1.out⟩
end Go.Proofs.YtphhjkclokjboaaDoor
