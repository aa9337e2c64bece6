/- point: a text that is too long, the text of nothing. -/
import Derived.Test.YtphhjkclokjboaaDoorPtE
namespace Go.Proofs.YtphhjkclokjboaaDoor
open Pt
open Go.ChangeShapes Go.WideShapes Go.ChangeAt Go.RowKit
set_option linter.unusedVariables false
set_option linter.unusedSimpArgs false

theorem joinNil_c (w : World) : Calls Tryd.prog 16 #[.slice none 0 0, .string ⟨#[32]⟩] w fun e w' => e = .returned (.string ⟨#[]⟩) ∧ Below w.heap.size w w' := by
  go_enter Tryd.func16, Tryd.ntmps16
  go_wp2
  all_goals go_ret
  all_goals exact ⟨rfl, by repeat (first | exact Below.refl _ _ | assumption | refine bal ?_ _)⟩

theorem ptTextNil_c (w : World) : Calls Tryd.prog 8 #[.slice none 0 0] w fun e w' => e = .returned (.string ⟨#[]⟩) ∧ Below w.heap.size w w' := by
  go_enter Tryd.func8, Tryd.ntmps8
  go_wp2
  refine wp_loop_rounds 1 ?_
  rw [rounds_succ]
  go_wp2_with fail
  refine (joinNil_c _).mono ?_
  rintro e w1 ⟨rfl, hb1⟩
  go_wp2
  go_ret
  exact ⟨rfl, bthen (by repeat (first | exact Below.refl _ _ | assumption | refine bal ?_ _)) hb1⟩

theorem readLong_c (s : ByteArray) (w : World) (h : 65536 < s.size) : Calls Tryd.prog 6 #[.string s] w fun e w' => e = .returned (.tuple #[.slice none 0 0, .agg #[.int .i64 3, .int .i64 65536]]) ∧ Below w.heap.size w w' := by
  go_enter Tryd.func6, Tryd.ntmps6
  go_wp2
  refine bodyPost_ret (v := .tuple #[.slice none 0 0, .agg #[.int .i64 3, .int .i64 65536]]) (by simp [results, Tryd.results6, go_sem, *]) rfl ⟨rfl, ?_⟩
  repeat (first | exact Below.refl _ _ | assumption | refine Below.drew ?_ | refine bset ?_ (by simp) _ | refine bal ?_ _)
end Go.Proofs.YtphhjkclokjboaaDoor
