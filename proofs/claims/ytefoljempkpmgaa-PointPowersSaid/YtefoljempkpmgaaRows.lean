/-
  No cell of these rows narrows 'for every input' (looked for: loops, veiled, ifaces, maps, wideKeys, modest, calm, conditions, laid).
  DERIVED. THE GIVEN ROWS OF THIS SEAT. 5 by the template 'for every input the law returns true; each argument reads behind the call as it read before'; 0 by the template 'total and deterministic' (their statements: YtefoljempkpmgaaTotals.lean).
  GIVEN WITH THE SEED: the statements are not yours to turn. If you find one false, say at which input.
  Laid BY PROGRAM, IN A SANDBOX (cutbox-rows.mjs): the forced cells as the released guide's own fill.sh prints them over the translation 5123f5aca0936b03… (all of the seat's roots in one cut). By AI agents, Wed Nov 11 2026. No macro, syntax, notation, axiom, sorry.
-/
import Derived.Test.YtefoljempkpmgaaChecked
import GoSem.Claim
import GoSem.ClaimJoined
import GoSem.ClaimMapViews
import Derived.JoinedTies
import Derived.KernelRfl
namespace Go.Proofs.Ytefoljempkpmgaa
/- THE CELL 'sum', in the pinned program and in every row, IS THE sha256 OF THE DUMP (.gsa) THAT YtefoljempkpmgaaProg.lean LOADS. Nothing in Lean hashes anything: it is a label: what it is worth is what the hold of that sum in a sandbox is worth. -/
noncomputable def Try.pinned : Pinned := { name := "ytefoljempkpmgaa", sum := "5123f5aca0936b0314f4d132e3a6af3c50737fd8831bc201ecf89741bcbd8f6b", checked := Try.checked }
namespace Rows
def none {H : Type} : Left H := { results := [], args := [] }

/-- 'anvillaw06.PointNorms': WHATEVER THE INPUT: true; the input reads as it did. -/
def pointNormsSpec : ChangeSpec := { name := "pointNorms", fn := fun _ => fun
  | [d1, d2] => { results := [.lit (.bool true)], args := [d1, d2] }
  | _ => none }
def pointNormsRow : OpenClaim := { program := "ytefoljempkpmgaa", sum := "5123f5aca0936b0314f4d132e3a6af3c50737fd8831bc201ecf89741bcbd8f6b", func := "anvil/anvillaw06.PointNorms", spec := "pointNorms", apart := false }
def PointNormsSaid : Prop := pointNormsRow.holds Try.pinned (OpenSpec.ofChange pointNormsSpec)

/-- ITS FALSE NEIGHBOUR: 'it returns false'. Refute it at one input. -/
def pointNormsWrong : ChangeSpec := { name := "pointNorms", fn := fun _ => fun
  | [d1, d2] => { results := [.lit (.bool false)], args := [d1, d2] }
  | _ => none }
def PointNormsWrongFalsely : Prop := pointNormsRow.holds Try.pinned (OpenSpec.ofChange pointNormsWrong)

/-- 'anvillaw06.PointTwins': WHATEVER THE INPUT: true; the input reads as it did. -/
def pointTwinsSpec : ChangeSpec := { name := "pointTwins", fn := fun _ => fun
  | [d] => { results := [.lit (.bool true)], args := [d] }
  | _ => none }
def pointTwinsRow : OpenClaim := { program := "ytefoljempkpmgaa", sum := "5123f5aca0936b0314f4d132e3a6af3c50737fd8831bc201ecf89741bcbd8f6b", func := "anvil/anvillaw06.PointTwins", spec := "pointTwins", apart := false }
def PointTwinsSaid : Prop := pointTwinsRow.holds Try.pinned (OpenSpec.ofChange pointTwinsSpec)

/-- ITS FALSE NEIGHBOUR: 'it returns false'. Refute it at one input. -/
def pointTwinsWrong : ChangeSpec := { name := "pointTwins", fn := fun _ => fun
  | [d] => { results := [.lit (.bool false)], args := [d] }
  | _ => none }
def PointTwinsWrongFalsely : Prop := pointTwinsRow.holds Try.pinned (OpenSpec.ofChange pointTwinsWrong)

/-- 'anvillaw06.PointBezout': WHATEVER THE INPUT: true; the input reads as it did. -/
def pointBezoutSpec : ChangeSpec := { name := "pointBezout", fn := fun _ => fun
  | [d] => { results := [.lit (.bool true)], args := [d] }
  | _ => none }
def pointBezoutRow : OpenClaim := { program := "ytefoljempkpmgaa", sum := "5123f5aca0936b0314f4d132e3a6af3c50737fd8831bc201ecf89741bcbd8f6b", func := "anvil/anvillaw06.PointBezout", spec := "pointBezout", apart := false }
def PointBezoutSaid : Prop := pointBezoutRow.holds Try.pinned (OpenSpec.ofChange pointBezoutSpec)

/-- ITS FALSE NEIGHBOUR: 'it returns false'. Refute it at one input. -/
def pointBezoutWrong : ChangeSpec := { name := "pointBezout", fn := fun _ => fun
  | [d] => { results := [.lit (.bool false)], args := [d] }
  | _ => none }
def PointBezoutWrongFalsely : Prop := pointBezoutRow.holds Try.pinned (OpenSpec.ofChange pointBezoutWrong)

/-- 'anvillaw06.PointAll': WHATEVER THE INPUT: true; the input reads as it did. -/
def pointAllSpec : ChangeSpec := { name := "pointAll", fn := fun _ => fun
  | [d1, d2] => { results := [.lit (.bool true)], args := [d1, d2] }
  | _ => none }
def pointAllRow : OpenClaim := { program := "ytefoljempkpmgaa", sum := "5123f5aca0936b0314f4d132e3a6af3c50737fd8831bc201ecf89741bcbd8f6b", func := "anvil/anvillaw06.PointAll", spec := "pointAll", unfollowed := true, recurses := true, apart := false }
def PointAllSaid : Prop := pointAllRow.holds Try.pinned (OpenSpec.ofChange pointAllSpec)

/-- ITS FALSE NEIGHBOUR: 'it returns false'. Refute it at one input. -/
def pointAllWrong : ChangeSpec := { name := "pointAll", fn := fun _ => fun
  | [d1, d2] => { results := [.lit (.bool false)], args := [d1, d2] }
  | _ => none }
def PointAllWrongFalsely : Prop := pointAllRow.holds Try.pinned (OpenSpec.ofChange pointAllWrong)

/-- 'anvillaw06.PointPowers': WHATEVER THE INPUT: true; the input reads as it did. -/
def pointPowersSpec : ChangeSpec := { name := "pointPowers", fn := fun _ => fun
  | [d1, d2, d3] => { results := [.lit (.bool true)], args := [d1, d2, d3] }
  | _ => none }
def pointPowersRow : OpenClaim := { program := "ytefoljempkpmgaa", sum := "5123f5aca0936b0314f4d132e3a6af3c50737fd8831bc201ecf89741bcbd8f6b", func := "anvil/anvillaw06.PointPowers", spec := "pointPowers", apart := false }
def PointPowersSaid : Prop := pointPowersRow.holds Try.pinned (OpenSpec.ofChange pointPowersSpec)

/-- ITS FALSE NEIGHBOUR: 'it returns false'. Refute it at one input. -/
def pointPowersWrong : ChangeSpec := { name := "pointPowers", fn := fun _ => fun
  | [d1, d2, d3] => { results := [.lit (.bool false)], args := [d1, d2, d3] }
  | _ => none }
def PointPowersWrongFalsely : Prop := pointPowersRow.holds Try.pinned (OpenSpec.ofChange pointPowersWrong)

/- THE SECOND FORM. 'bulk': how many values and letters a reading holds, each counted each time it is reached (what is shared counts as often as it is met; a slice's spare places count too). A statement '..UptoSaid' is the law's where the arguments, and the package variables that the reading takes, are together of bulk at most 1048576: NARROWER than '..Said'. Prove '..Said' where nothing that the law and all that it calls make is longer than what came in: it says more and counts as full. Else prove '..UptoSaid'. A law counts once. -/
mutual
def uptoBulk {H : Type} : DataW H → Nat
  | .lit (.string bytes) => bytes.length + 1
  | .lit _ => 1
  | .nil => 1
  | .ptr d => uptoBulk d + 1
  | .slice elems spare => uptoBulkAll elems + uptoBulkAll spare + 1
  | .agg parts => uptoBulkAll parts + 1
  | .iface _ d => uptoBulk d + 1
  | .map entries => uptoBulkEntries entries + 1
  | .held _ => 1
def uptoBulkAll {H : Type} : List (DataW H) → Nat
  | [] => 0
  | d :: r => uptoBulk d + uptoBulkAll r
def uptoBulkEntries {H : Type} : List (Lit × DataW H) → Nat
  | [] => 0
  | x :: r => uptoBulkEntry x + uptoBulkEntries r
def uptoBulkEntry {H : Type} : Lit × DataW H → Nat
  | (.string bytes, d) => bytes.length + uptoBulk d + 1
  | (_, d) => uptoBulk d + 1
 end
def uptoSmall : (H : Type) → List (DataW H) → Bool := fun _ ds => decide (uptoBulkAll ds ≤ 1048576)
def OpenSpec.upto (s : _root_.Go.ChangeSpec) : _root_.Go.OpenSpec := { _root_.Go.OpenSpec.ofChange s with cond := some uptoSmall }

/-- 'anvillaw06.PointNorms', WHERE WHAT IT READS IS OF BULK AT MOST 1048576: true; the input reads as it did. -/
def pointNormsUptoRow : OpenClaim := { program := "ytefoljempkpmgaa", sum := "5123f5aca0936b0314f4d132e3a6af3c50737fd8831bc201ecf89741bcbd8f6b", func := "anvil/anvillaw06.PointNorms", spec := "pointNorms", apart := false, narrowed := true }
def PointNormsUptoSaid : Prop := pointNormsUptoRow.holds Try.pinned (OpenSpec.upto pointNormsSpec)

/-- 'anvillaw06.PointTwins', WHERE WHAT IT READS IS OF BULK AT MOST 1048576: true; the input reads as it did. -/
def pointTwinsUptoRow : OpenClaim := { program := "ytefoljempkpmgaa", sum := "5123f5aca0936b0314f4d132e3a6af3c50737fd8831bc201ecf89741bcbd8f6b", func := "anvil/anvillaw06.PointTwins", spec := "pointTwins", apart := false, narrowed := true }
def PointTwinsUptoSaid : Prop := pointTwinsUptoRow.holds Try.pinned (OpenSpec.upto pointTwinsSpec)

/-- 'anvillaw06.PointBezout', WHERE WHAT IT READS IS OF BULK AT MOST 1048576: true; the input reads as it did. -/
def pointBezoutUptoRow : OpenClaim := { program := "ytefoljempkpmgaa", sum := "5123f5aca0936b0314f4d132e3a6af3c50737fd8831bc201ecf89741bcbd8f6b", func := "anvil/anvillaw06.PointBezout", spec := "pointBezout", apart := false, narrowed := true }
def PointBezoutUptoSaid : Prop := pointBezoutUptoRow.holds Try.pinned (OpenSpec.upto pointBezoutSpec)

/-- 'anvillaw06.PointAll', WHERE WHAT IT READS IS OF BULK AT MOST 1048576: true; the input reads as it did. -/
def pointAllUptoRow : OpenClaim := { program := "ytefoljempkpmgaa", sum := "5123f5aca0936b0314f4d132e3a6af3c50737fd8831bc201ecf89741bcbd8f6b", func := "anvil/anvillaw06.PointAll", spec := "pointAll", unfollowed := true, recurses := true, apart := false, narrowed := true }
def PointAllUptoSaid : Prop := pointAllUptoRow.holds Try.pinned (OpenSpec.upto pointAllSpec)

/-- 'anvillaw06.PointPowers', WHERE WHAT IT READS IS OF BULK AT MOST 1048576: true; the input reads as it did. -/
def pointPowersUptoRow : OpenClaim := { program := "ytefoljempkpmgaa", sum := "5123f5aca0936b0314f4d132e3a6af3c50737fd8831bc201ecf89741bcbd8f6b", func := "anvil/anvillaw06.PointPowers", spec := "pointPowers", apart := false, narrowed := true }
def PointPowersUptoSaid : Prop := pointPowersUptoRow.holds Try.pinned (OpenSpec.upto pointPowersSpec)

end Rows
end Go.Proofs.Ytefoljempkpmgaa
