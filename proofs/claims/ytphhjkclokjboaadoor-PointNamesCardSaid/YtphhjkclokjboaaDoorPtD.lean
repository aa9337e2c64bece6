/- One; the reference's Common, Norm, One, Det. -/
import Derived.Test.YtphhjkclokjboaaDoorPtC
import Derived.Deep.RegionHeld3
namespace Go.Proofs.YtphhjkclokjboaaDoor
open Pt
open Go.ChangeShapes Go.WideShapes Go.ChangeAt Go.RowKit
set_option linter.unusedVariables false
set_option linter.unusedSimpArgs false

theorem norm_pv (a b : Int) (w : World) (h : PIn a b) :
    Calls Tryd.prog 21 #[pv a b] w fun e w' => e = .returned (pv (nrm a b).1 (nrm a b).2) ∧ Below w.heap.size w w' := norm_c a b w h


theorem eq_pv (x y u v : Int) (w : World) : (binOp .eql 32 (.agg #[.int .i64 x, .int .i64 y]) (.agg #[.int .i64 u, .int .i64 v])).run Tryd.prog w = .ok (.bool (x == u && y == v)) w := by
  by_cases h : x = u
  · subst h
    simp [go_sem]
    by_cases h : y = v
    · subst h; simp
    · simp [h]
  · simp [go_sem, h]
theorem refCommon_c (a b : Int) (w : World) :
    Calls Tryd.prog 33 #[pv a b] w fun e w' => e = .returned (.int .i64 (cm a b 16)) ∧ Below w.heap.size w w' := by
  go_enter Tryd.func33, Tryd.ntmps33
  go_wp2
  go_loopw [3, 4] (fun g d wr => ∃ k : Nat, k ≤ 16 ∧ d = .int .i64 ((k : Int) + 1) ∧ g = .int .i64 (cm a b k) ∧ wr.cell? ⟨w.heap.size, 0, none⟩ = some (.int .i64 a) ∧ wr.cell? ⟨w.heap.size, 1, none⟩ = some (.int .i64 b) ∧ w.heap.size < wr.heap.size ∧ Below w.heap.size w wr) (fun _ d _ => 17 - (intOf d).toNat)
  case atStart => exact ⟨0, by omega, rfl, rfl, by simp, by simp, by simp, bal (Below.refl _ _) _⟩
  case round =>
    obtain ⟨k, hk, rfl, rfl, hca, hcb, hz, hb⟩ := hrel
    have C1 := Lib.hid (show cm a b (k + 1) = if a.tmod ((k : Int) + 1) = 0 ∧ b.tmod ((k : Int) + 1) = 0 ∧ (!nn a b) = true then (k : Int) + 1 else cm a b k from rfl)
    have cb := cm_bd a b k
    by_cases hlt : k < 16
    · go_wp2_with (go_at_call 51; refine (refNone_c _ _ _).mono ?_; rintro e w3 ⟨rfl, hb3⟩; obtain ⟨hc3, hf3⟩ := bcell hb3; have z3 : w.heap.size < w3.heap.size := bfar hb3 hz; have b3 : Below w.heap.size w w3 := bthen hb hb3)
      all_goals have := C1.out
      all_goals refine ⟨⟨k + 1, by omega, by go_num, ?_, by first | exact hca | (rw [hc3 _ _ hz]; exact hca), by first | exact hcb | (rw [hc3 _ _ hz]; exact hcb), by assumption, by assumption⟩, by simp [intOf]; omega⟩
      all_goals (rw [this]; first | (rw [if_pos ⟨by assumption, by assumption, by assumption⟩]) | (rw [if_neg (by rintro ⟨k1, k2, k3⟩; first | contradiction | exact absurd (k3.symm.trans (by assumption : (!nn a b) = false)) (by decide))]))
    · obtain rfl : k = 16 := by omega
      go_wp2
      go_ret
      exact ⟨rfl, hb⟩
end Go.Proofs.YtphhjkclokjboaaDoor
