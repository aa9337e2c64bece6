/- Texts of this seat, laid together (what the earlier ones leave out): Wp. Each opens with its own remark, which says what it proves, and under which conditions. -/
import Derived.Test.YtkejdmdldhlkgaaGreatDoorP01
import Derived.Test.YtkejdmdldhlkgaaGreatDoorP02
import Derived.Test.YtkejdmdldhlkgaaGreatDoorP03
import Derived.Test.YtkejdmdldhlkgaaGreatDoorP04
import Derived.Test.YtkejdmdldhlkgaaGreatDoorP05
import Derived.Test.YtkejdmdldhlkgaaGreatDoorP06
import Derived.Test.YtkejdmdldhlkgaaGreatDoorP07
import Derived.Test.YtkejdmdldhlkgaaGreatDoorP08
import Derived.Test.YtkejdmdldhlkgaaGreatDoorP09
import Derived.Test.YtkejdmdldhlkgaaGreatDoorP10
import Derived.Test.YtkejdmdldhlkgaaGreatDoorP11
import Derived.Test.YtkejdmdldhlkgaaGreatDoorP12
import Derived.Test.YtkejdmdldhlkgaaGreatDoorP13
import Derived.Test.YtkejdmdldhlkgaaGreatDoorP14
import Derived.Test.YtkejdmdldhlkgaaGreatDoorP15
import Derived.Test.YtkejdmdldhlkgaaGreatDoorP16
import Derived.Test.YtkejdmdldhlkgaaGreatDoorP17
import Derived.Test.YtkejdmdldhlkgaaGreatDoorP18
import Derived.Test.YtkejdmdldhlkgaaGreatDoorP19
import Derived.Test.YtkejdmdldhlkgaaGreatDoorP20
import Derived.Test.YtkejdmdldhlkgaaGreatDoorP21
import Derived.Test.YtkejdmdldhlkgaaGreatDoorP22
import Derived.Test.YtkejdmdldhlkgaaGreatDoorP23
import Derived.Test.YtkejdmdldhlkgaaGreatDoorP24
import Derived.Test.YtkejdmdldhlkgaaGreatDoorP25
import Derived.Test.YtkejdmdldhlkgaaGreatDoorP26
import Derived.Test.YtkejdmdldhlkgaaGreatDoorP27
import Derived.Test.YtkejdmdldhlkgaaGreatDoorP28
import Derived.Test.YtkejdmdldhlkgaaGreatDoorP29
import Derived.Test.YtkejdmdldhlkgaaGreatDoorP30
import Derived.Test.YtkejdmdldhlkgaaGreatDoorU01
import Derived.Test.YtkejdmdldhlkgaaGreatDoorU02
import Derived.Test.YtkejdmdldhlkgaaGreatDoorU03
import Derived.WalkKit
import Derived.ProofKit
import Derived.OpenShut
import Derived.Deep.QuietTactic
import Derived.BigQuiet
import Derived.Outline
import Derived.Lib.Hide
import Derived.WalkSmall
import Derived.WalkSpells
import Derived.WalkLawsBesides
import Derived.Deep.RegionWith
import Derived.Deep.RegionHeld3
import Derived.Laws.CopyOwn
import Derived.Shelf.Small.Bits
import Derived.Laws.AppendOwn
import Derived.Deep.AppendLies
import Derived.Deep.DrawnRows
import Derived.StillTail
import Derived.Deep.Quiet
import Derived.OneCell
import Derived.Laws.BitsAllLaws
import Derived.Shelf.Spec.TrailingZeros
import Derived.Shelf.Strings.Builder1
import Derived.Shelf.Strings.Trim
import Derived.Deep.Cut
import Derived.Deep.DeepCutAuto
import Derived.ArgAppend
import Derived.Deep.DeepFit
import Derived.Shelf.Abstract
import Derived.Laws.EntriesVeiled
import Derived.RegionTactic
import Derived.ChangeAlike
import Derived.Laws.OwnMore
import Derived.Deep.Onto
import Derived.Deep.RegionLaw
import Derived.Deep.LoopGhost
import Derived.RangeFuncNested
import Derived.RangeFuncBound
import Derived.RangeFuncCalls
import Derived.RangeFuncLeaves
import Derived.Shelf.RegionOpen
import Derived.OwnWalkIn
import Derived.TacticsInMore
import Derived.LoopNIn
import Derived.LoopIn
import Derived.Laws.CopyRow
import Derived.Laws.Rows
import Derived.Laws.Tables
import Derived.StillTailTactics
import Derived.Lib.AppendZeros
import Derived.Laws.IdiomStrings
import Derived.Laws.BytesArg
import Derived.Laws.RangeString
import Derived.Lib.OthersKept
import Derived.Maps.AppendAt
import Derived.Shelf.Strings.OnBuilder
import Derived.Lib.SmallJoins
import Derived.Deep.Slices
import Derived.Deep.Matrix
import Derived.Deep.Fields
import Derived.ChangeSame
import Derived.DataShut
import Derived.SizedLaws
set_option linter.unusedVariables false
set_option linter.unusedSimpArgs false
/- A list of points that came in, no slice past what can be reached. -/
namespace Go.Proofs.YtkejdmdldhlkgaaGreatDoor
open Go.ChangeShapes Go.WideShapes Go.ChangeAt Go.RowKit Go.Joins Go.Deep
set_option maxRecDepth 100000
theorem open_i64row_c {H : Type} {enc : TypeId × Value → H} {W : World} {b0 : Nat} {r : Reach} {v : Value} {d : DataW H} {p : List MemPlace}
    (hv : Value.okWide Tryz.prog W r b0 53 v) (h : DataW.Trod enc Tryz.prog W 0 (fun _ => true) true 53 v d p) :
    ∃ a c l, v = .slice a l.length c ∧ RowI W (.slice a l.length c) l ∧ l.length ≤ c := by
  obtain ⟨a, n, cap, rfl⟩ := okWide_slice Tryz.underlying53 hv
  obtain ⟨fuel, hf⟩ := h
  rcases open_ints Tryz.underlying53 Tryz.underlying2 (by kernel_rfl) hf with ⟨hcs, hx⟩ | ⟨a', len, c, zs, hcs, _, hl, hm, hz, hx, hc, hwf⟩
  · simp [Value.cells] at hcs
    obtain ⟨rfl, rfl, rfl⟩ := hcs
    exact ⟨none, 0, [], rfl, ⟨_, _, rfl, fun k hk => absurd hk (by simp)⟩, by simp⟩
  · simp [Value.cells] at hcs
    obtain ⟨rfl, rfl, rfl⟩ := hcs
    simp only [if_true] at hz
    have hlen : (zs.take n).length = n := by rw [List.length_take]; omega
    refine ⟨_, _, zs.take n, by rw [hlen], ⟨_, _, rfl, fun k hk => ?_⟩, by rw [hlen]; omega⟩
    rw [hlen] at hk
    obtain ⟨b, o, rfl⟩ := plain_at (hc 0 (by omega))
    have h9 := hc k (by omega)
    rw [add_plain] at h9
    have e2 : (zs.take n).getD k 0 = zs.getD k 0 := by rw [List.getD_eq_getElem?_getD, List.getD_eq_getElem?_getD, List.getElem?_take_of_lt hk]
    rw [e2]
    refine ⟨b, o, rfl, h9, i64_of (hwf _ ?_)⟩
    rw [List.getD_eq_getElem?_getD, List.getElem?_eq_getElem (by omega)]
    exact List.getElem_mem _
end Go.Proofs.YtkejdmdldhlkgaaGreatDoor

