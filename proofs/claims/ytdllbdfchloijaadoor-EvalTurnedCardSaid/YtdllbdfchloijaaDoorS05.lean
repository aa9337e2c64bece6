/- Texts of this seat, laid together (what the earlier ones leave out): Wi. Each opens with its own remark, which says what it proves, and under which conditions. -/
import Derived.Test.YtdllbdfchloijaaDoorR01
import Derived.Test.YtdllbdfchloijaaDoorR02
import Derived.Test.YtdllbdfchloijaaDoorR03
import Derived.Test.YtdllbdfchloijaaDoorR04
import Derived.Test.YtdllbdfchloijaaDoorR05
import Derived.Test.YtdllbdfchloijaaDoorR06
import Derived.Test.YtdllbdfchloijaaDoorR07
import Derived.Test.YtdllbdfchloijaaDoorR08
import Derived.Test.YtdllbdfchloijaaDoorR09
import Derived.Test.YtdllbdfchloijaaDoorR10
import Derived.Test.YtdllbdfchloijaaDoorR11
import Derived.Test.YtdllbdfchloijaaDoorR12
import Derived.Test.YtdllbdfchloijaaDoorR13
import Derived.Test.YtdllbdfchloijaaDoorR14
import Derived.Test.YtdllbdfchloijaaDoorR15
import Derived.Test.YtdllbdfchloijaaDoorR16
import Derived.Test.YtdllbdfchloijaaDoorR17
import Derived.Test.YtdllbdfchloijaaDoorR18
import Derived.Test.YtdllbdfchloijaaDoorR19
import Derived.Test.YtdllbdfchloijaaDoorR20
import Derived.Test.YtdllbdfchloijaaDoorR21
import Derived.Test.YtdllbdfchloijaaDoorR22
import Derived.Test.YtdllbdfchloijaaDoorR23
import Derived.Test.YtdllbdfchloijaaDoorS01
import Derived.Test.YtdllbdfchloijaaDoorS02
import Derived.Test.YtdllbdfchloijaaDoorS03
import Derived.Test.YtdllbdfchloijaaDoorS04
import Derived.WalkKit
import Derived.ProofKit
import Derived.OpenShut
import Derived.Deep.QuietTactic
import Derived.BigQuiet
import Derived.Outline
import Derived.Lib.Hide
import Derived.WalkSmall
import Derived.WalkSpells
import Derived.WalkLawsBesides
import Derived.Deep.RegionWith
import Derived.Deep.RegionHeld3
import Derived.Laws.CopyOwn
import Derived.Shelf.Small.Bits
import Derived.Laws.BitsAllLaws
import Derived.Shelf.Spec.TrailingZeros
import Derived.Shelf.Strings.Builder1
import Derived.Shelf.Strings.Trim
import Derived.Deep.Cut
import Derived.Deep.DeepCutAuto
import Derived.ArgAppend
import Derived.Deep.DeepFit
import Derived.Laws.AppendOwn
import Derived.Deep.AppendLies
import Derived.OneCell
import Derived.Shelf.Abstract
import Derived.Laws.EntriesVeiled
import Derived.Deep.DrawnRows
import Derived.Deep.RegionLaw
import Derived.Deep.LoopGhost
import Derived.RegionTactic
import Derived.ChangeAlike
import Derived.Laws.OwnMore
import Derived.Deep.Onto
import Derived.Laws.CopyRow
import Derived.Laws.Rows
import Derived.Laws.Tables
import Derived.Laws.IdiomStrings
import Derived.Laws.BytesArg
import Derived.RangeFuncNested
import Derived.RangeFuncBound
import Derived.RangeFuncCalls
import Derived.RangeFuncLeaves
import Derived.Shelf.RegionOpen
import Derived.OwnWalkIn
import Derived.TacticsInMore
import Derived.LoopNIn
import Derived.LoopIn
import Derived.Laws.RangeString
import Derived.Lib.OthersKept
import Derived.Maps.AppendAt
import Derived.StillTail
import Derived.Deep.Quiet
import Derived.StillTailTactics
import Derived.LaidLaws
import Derived.Lib.LaidTab
import Derived.Lib.SmallJoins
import Derived.Deep.Slices
import Derived.Deep.Matrix
import Derived.Deep.Fields
import Derived.ChangeSame
import Derived.DataShut
import Derived.SizedLaws
set_option linter.unusedVariables false
set_option linter.unusedSimpArgs false
/- An int that came in. -/
namespace Go.Proofs.YtdllbdfchloijaaDoor
open Go.ChangeShapes Go.WideShapes Go.ChangeAt Go.RowKit Go.Joins Go.Deep
set_option maxRecDepth 100000
theorem open_i64 {H : Type} {enc : TypeId × Value → H} {W : World} {base b0 : Nat} {r : Reach} {spare : Nat → Bool} {held : Bool} {v : Value} {d : DataW H} {p : List MemPlace}
    (hv : Value.okWide Tryd.prog W r b0 3 v) (h : DataW.Trod enc Tryd.prog W base spare held 3 v d p) :
    ∃ a : Int, v = .int .i64 a ∧ (Lit.int .i64 a).wf = true := by
  obtain ⟨x, rfl, rfl, rfl, wx⟩ := open_int Tryd.underlying3 hv h
  exact ⟨x, rfl, wx⟩
end Go.Proofs.YtdllbdfchloijaaDoor

