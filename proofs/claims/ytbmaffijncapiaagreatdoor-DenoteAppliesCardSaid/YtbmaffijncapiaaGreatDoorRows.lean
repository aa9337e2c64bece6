/-
  NARROWER THAN 'FOR EVERY INPUT', by the rows' own cells (each row's printed sentence says how): DenoteRows: laid · DenoteApplies: laid · DenoteSames: laid · DenoteLinear: laid · DenoteHolds: laid · DenoteLast: laid · DenoteJoined: laid · DenoteKnown: laid · MatrixDets: laid · MatrixInverts: laid · SchemeMatrices: laid.
  DERIVED. THE GIVEN ROWS OF THIS SEAT. 11 by the template 'for every input the law returns true; each argument reads behind the call as it read before'; 0 by the template 'total and deterministic' (their statements: YtbmaffijncapiaaGreatDoorTotals.lean).
  GIVEN WITH THE SEED: the statements are not yours to turn. If you find one false, say at which input.
  Laid BY PROGRAM, IN A SANDBOX (cutbox-rows.mjs): the forced cells as the released guide's own fill.sh prints them over the translation a3b1e87220b34e8a… (all of the seat's roots in one cut). By AI agents, Wed Nov 11 2026. No macro, syntax, notation, axiom, sorry.
-/
import Derived.Test.YtbmaffijncapiaaGreatDoorChecked
import GoSem.PinnedTables
import GoSem.Claim
import GoSem.ClaimJoined
import GoSem.ClaimMapViews
import Derived.JoinedTies
import Derived.KernelRfl
namespace Go.Proofs.YtbmaffijncapiaaGreatDoor
/- THE CELL 'sum', in the pinned program and in every row, IS THE sha256 OF THE DUMP (.gsa) THAT YtbmaffijncapiaaGreatDoorProg.lean LOADS. Nothing in Lean hashes anything: it is a label: what it is worth is what the hold of that sum in a sandbox is worth. -/
noncomputable def Tryz.pinned : Pinned := { name := "ytbmaffijncapiaagreatdoor", sum := "a3b1e87220b34e8a43816b992991add74ff057386b591d9b11a64bb9218bd9bb", checked := Tryz.checked }
namespace Rows
def none {H : Type} : Left H := { results := [], args := [] }

/- WHAT THE LISTED PACKAGE-LEVEL VARIABLES READ AS WHEN THE CALL BEGINS. Each datum BY PROGRAM (the guide's laid-datum.mjs) off the statement by which the dump's own 'gosem.cut.vars' lays the variable. In a bare row this is a premise. The card (YtbmaffijncapiaaGreatDoorCards.lean) ties it to the program's text. -/
def laid_unicode_utf8_acceptRanges {H : Type} : DataW H := .agg [.agg [.lit (.int .u8 128), .lit (.int .u8 191)], .agg [.lit (.int .u8 160), .lit (.int .u8 191)], .agg [.lit (.int .u8 128), .lit (.int .u8 159)], .agg [.lit (.int .u8 144), .lit (.int .u8 191)], .agg [.lit (.int .u8 128), .lit (.int .u8 143)], .agg [.lit (.int .u8 0), .lit (.int .u8 0)], .agg [.lit (.int .u8 0), .lit (.int .u8 0)], .agg [.lit (.int .u8 0), .lit (.int .u8 0)], .agg [.lit (.int .u8 0), .lit (.int .u8 0)], .agg [.lit (.int .u8 0), .lit (.int .u8 0)], .agg [.lit (.int .u8 0), .lit (.int .u8 0)], .agg [.lit (.int .u8 0), .lit (.int .u8 0)], .agg [.lit (.int .u8 0), .lit (.int .u8 0)], .agg [.lit (.int .u8 0), .lit (.int .u8 0)], .agg [.lit (.int .u8 0), .lit (.int .u8 0)], .agg [.lit (.int .u8 0), .lit (.int .u8 0)]]
/-- One of Go's own tables, pinned by name: the form's constant. -/
def laid_unicode_utf8_first : DataW Unit := Go.Pinned.utf8First

/-- 'anvillaw09.DenoteRows': WHATEVER THE INPUT: true; the input reads as it did. -/
def denoteRowsSpec : ChangeSpec := { name := "denoteRows", fn := fun _ => fun
  | [d1, d2] => { results := [.lit (.bool true)], args := [d1, d2] }
  | _ => none }
def denoteRowsRow : OpenClaim := { program := "ytbmaffijncapiaagreatdoor", sum := "a3b1e87220b34e8a43816b992991add74ff057386b591d9b11a64bb9218bd9bb", func := "anvil/anvillaw09.DenoteRows", spec := "denoteRows", inPlace := ["internal/bytealg.IndexByteString", "internal/bytealg.IndexString", "internal/abi.NoEscape", "internal/bytealg.MakeNoZero"], unfollowed := true, recurses := true, named := ["unicode/utf8.first", "unicode/utf8.acceptRanges", "internal/bytealg.MaxLen"], apart := false, laid := [("unicode/utf8.acceptRanges", laid_unicode_utf8_acceptRanges), ("unicode/utf8.first", laid_unicode_utf8_first)] }
def DenoteRowsSaid : Prop := denoteRowsRow.holds Tryz.pinned (OpenSpec.ofChange denoteRowsSpec)

/-- ITS FALSE NEIGHBOUR: 'it returns false'. Refute it at one input. -/
def denoteRowsWrong : ChangeSpec := { name := "denoteRows", fn := fun _ => fun
  | [d1, d2] => { results := [.lit (.bool false)], args := [d1, d2] }
  | _ => none }
def DenoteRowsWrongFalsely : Prop := denoteRowsRow.holds Tryz.pinned (OpenSpec.ofChange denoteRowsWrong)

/-- 'anvillaw09.DenoteApplies': WHATEVER THE INPUT: true; the input reads as it did. -/
def denoteAppliesSpec : ChangeSpec := { name := "denoteApplies", fn := fun _ => fun
  | [d1, d2] => { results := [.lit (.bool true)], args := [d1, d2] }
  | _ => none }
def denoteAppliesRow : OpenClaim := { program := "ytbmaffijncapiaagreatdoor", sum := "a3b1e87220b34e8a43816b992991add74ff057386b591d9b11a64bb9218bd9bb", func := "anvil/anvillaw09.DenoteApplies", spec := "denoteApplies", inPlace := ["internal/bytealg.IndexByteString", "internal/bytealg.IndexString", "internal/abi.NoEscape", "internal/bytealg.MakeNoZero"], unfollowed := true, recurses := true, named := ["unicode/utf8.first", "unicode/utf8.acceptRanges", "internal/bytealg.MaxLen"], apart := false, laid := [("unicode/utf8.acceptRanges", laid_unicode_utf8_acceptRanges), ("unicode/utf8.first", laid_unicode_utf8_first)] }
def DenoteAppliesSaid : Prop := denoteAppliesRow.holds Tryz.pinned (OpenSpec.ofChange denoteAppliesSpec)

/-- ITS FALSE NEIGHBOUR: 'it returns false'. Refute it at one input. -/
def denoteAppliesWrong : ChangeSpec := { name := "denoteApplies", fn := fun _ => fun
  | [d1, d2] => { results := [.lit (.bool false)], args := [d1, d2] }
  | _ => none }
def DenoteAppliesWrongFalsely : Prop := denoteAppliesRow.holds Tryz.pinned (OpenSpec.ofChange denoteAppliesWrong)

/-- 'anvillaw09.DenoteSames': WHATEVER THE INPUT: true; the input reads as it did. -/
def denoteSamesSpec : ChangeSpec := { name := "denoteSames", fn := fun _ => fun
  | [d1, d2] => { results := [.lit (.bool true)], args := [d1, d2] }
  | _ => none }
def denoteSamesRow : OpenClaim := { program := "ytbmaffijncapiaagreatdoor", sum := "a3b1e87220b34e8a43816b992991add74ff057386b591d9b11a64bb9218bd9bb", func := "anvil/anvillaw09.DenoteSames", spec := "denoteSames", inPlace := ["internal/bytealg.IndexByteString", "internal/bytealg.IndexString", "internal/abi.NoEscape", "internal/bytealg.MakeNoZero"], unfollowed := true, recurses := true, named := ["unicode/utf8.first", "unicode/utf8.acceptRanges", "internal/bytealg.MaxLen"], apart := false, laid := [("unicode/utf8.acceptRanges", laid_unicode_utf8_acceptRanges), ("unicode/utf8.first", laid_unicode_utf8_first)] }
def DenoteSamesSaid : Prop := denoteSamesRow.holds Tryz.pinned (OpenSpec.ofChange denoteSamesSpec)

/-- ITS FALSE NEIGHBOUR: 'it returns false'. Refute it at one input. -/
def denoteSamesWrong : ChangeSpec := { name := "denoteSames", fn := fun _ => fun
  | [d1, d2] => { results := [.lit (.bool false)], args := [d1, d2] }
  | _ => none }
def DenoteSamesWrongFalsely : Prop := denoteSamesRow.holds Tryz.pinned (OpenSpec.ofChange denoteSamesWrong)

/-- 'anvillaw09.DenoteLinear': WHATEVER THE INPUT: true; the input reads as it did. -/
def denoteLinearSpec : ChangeSpec := { name := "denoteLinear", fn := fun _ => fun
  | [d1, d2, d3] => { results := [.lit (.bool true)], args := [d1, d2, d3] }
  | _ => none }
def denoteLinearRow : OpenClaim := { program := "ytbmaffijncapiaagreatdoor", sum := "a3b1e87220b34e8a43816b992991add74ff057386b591d9b11a64bb9218bd9bb", func := "anvil/anvillaw09.DenoteLinear", spec := "denoteLinear", inPlace := ["internal/bytealg.IndexByteString", "internal/bytealg.IndexString", "internal/abi.NoEscape", "internal/bytealg.MakeNoZero"], unfollowed := true, recurses := true, named := ["unicode/utf8.first", "unicode/utf8.acceptRanges", "internal/bytealg.MaxLen"], apart := false, laid := [("unicode/utf8.acceptRanges", laid_unicode_utf8_acceptRanges), ("unicode/utf8.first", laid_unicode_utf8_first)] }
def DenoteLinearSaid : Prop := denoteLinearRow.holds Tryz.pinned (OpenSpec.ofChange denoteLinearSpec)

/-- ITS FALSE NEIGHBOUR: 'it returns false'. Refute it at one input. -/
def denoteLinearWrong : ChangeSpec := { name := "denoteLinear", fn := fun _ => fun
  | [d1, d2, d3] => { results := [.lit (.bool false)], args := [d1, d2, d3] }
  | _ => none }
def DenoteLinearWrongFalsely : Prop := denoteLinearRow.holds Tryz.pinned (OpenSpec.ofChange denoteLinearWrong)

/-- 'anvillaw09.DenoteHolds': WHATEVER THE INPUT: true; the input reads as it did. -/
def denoteHoldsSpec : ChangeSpec := { name := "denoteHolds", fn := fun _ => fun
  | [d1, d2, d3] => { results := [.lit (.bool true)], args := [d1, d2, d3] }
  | _ => none }
def denoteHoldsRow : OpenClaim := { program := "ytbmaffijncapiaagreatdoor", sum := "a3b1e87220b34e8a43816b992991add74ff057386b591d9b11a64bb9218bd9bb", func := "anvil/anvillaw09.DenoteHolds", spec := "denoteHolds", inPlace := ["internal/bytealg.IndexByteString", "internal/bytealg.IndexString", "internal/abi.NoEscape", "internal/bytealg.MakeNoZero"], unfollowed := true, recurses := true, named := ["unicode/utf8.first", "unicode/utf8.acceptRanges", "internal/bytealg.MaxLen"], apart := false, laid := [("unicode/utf8.acceptRanges", laid_unicode_utf8_acceptRanges), ("unicode/utf8.first", laid_unicode_utf8_first)] }
def DenoteHoldsSaid : Prop := denoteHoldsRow.holds Tryz.pinned (OpenSpec.ofChange denoteHoldsSpec)

/-- ITS FALSE NEIGHBOUR: 'it returns false'. Refute it at one input. -/
def denoteHoldsWrong : ChangeSpec := { name := "denoteHolds", fn := fun _ => fun
  | [d1, d2, d3] => { results := [.lit (.bool false)], args := [d1, d2, d3] }
  | _ => none }
def DenoteHoldsWrongFalsely : Prop := denoteHoldsRow.holds Tryz.pinned (OpenSpec.ofChange denoteHoldsWrong)

/-- 'anvillaw09.DenoteLast': WHATEVER THE INPUT: true; the input reads as it did. -/
def denoteLastSpec : ChangeSpec := { name := "denoteLast", fn := fun _ => fun
  | [d] => { results := [.lit (.bool true)], args := [d] }
  | _ => none }
def denoteLastRow : OpenClaim := { program := "ytbmaffijncapiaagreatdoor", sum := "a3b1e87220b34e8a43816b992991add74ff057386b591d9b11a64bb9218bd9bb", func := "anvil/anvillaw09.DenoteLast", spec := "denoteLast", inPlace := ["internal/bytealg.IndexByteString", "internal/bytealg.IndexString", "internal/abi.NoEscape", "internal/bytealg.MakeNoZero"], unfollowed := true, recurses := true, named := ["unicode/utf8.first", "unicode/utf8.acceptRanges", "internal/bytealg.MaxLen"], apart := false, laid := [("unicode/utf8.acceptRanges", laid_unicode_utf8_acceptRanges), ("unicode/utf8.first", laid_unicode_utf8_first)] }
def DenoteLastSaid : Prop := denoteLastRow.holds Tryz.pinned (OpenSpec.ofChange denoteLastSpec)

/-- ITS FALSE NEIGHBOUR: 'it returns false'. Refute it at one input. -/
def denoteLastWrong : ChangeSpec := { name := "denoteLast", fn := fun _ => fun
  | [d] => { results := [.lit (.bool false)], args := [d] }
  | _ => none }
def DenoteLastWrongFalsely : Prop := denoteLastRow.holds Tryz.pinned (OpenSpec.ofChange denoteLastWrong)

/-- 'anvillaw09.DenoteJoined': WHATEVER THE INPUT: true; the input reads as it did. -/
def denoteJoinedSpec : ChangeSpec := { name := "denoteJoined", fn := fun _ => fun
  | [d1, d2] => { results := [.lit (.bool true)], args := [d1, d2] }
  | _ => none }
def denoteJoinedRow : OpenClaim := { program := "ytbmaffijncapiaagreatdoor", sum := "a3b1e87220b34e8a43816b992991add74ff057386b591d9b11a64bb9218bd9bb", func := "anvil/anvillaw09.DenoteJoined", spec := "denoteJoined", inPlace := ["internal/bytealg.IndexByteString", "internal/bytealg.IndexString", "internal/abi.NoEscape", "internal/bytealg.MakeNoZero"], unfollowed := true, recurses := true, named := ["unicode/utf8.first", "unicode/utf8.acceptRanges", "internal/bytealg.MaxLen"], apart := false, laid := [("unicode/utf8.acceptRanges", laid_unicode_utf8_acceptRanges), ("unicode/utf8.first", laid_unicode_utf8_first)] }
def DenoteJoinedSaid : Prop := denoteJoinedRow.holds Tryz.pinned (OpenSpec.ofChange denoteJoinedSpec)

/-- ITS FALSE NEIGHBOUR: 'it returns false'. Refute it at one input. -/
def denoteJoinedWrong : ChangeSpec := { name := "denoteJoined", fn := fun _ => fun
  | [d1, d2] => { results := [.lit (.bool false)], args := [d1, d2] }
  | _ => none }
def DenoteJoinedWrongFalsely : Prop := denoteJoinedRow.holds Tryz.pinned (OpenSpec.ofChange denoteJoinedWrong)

/-- 'anvillaw09.DenoteKnown': WHATEVER THE INPUT: true; the input reads as it did. -/
def denoteKnownSpec : ChangeSpec := { name := "denoteKnown", fn := fun _ => fun
  | [] => { results := [.lit (.bool true)], args := [] }
  | _ => none }
def denoteKnownRow : OpenClaim := { program := "ytbmaffijncapiaagreatdoor", sum := "a3b1e87220b34e8a43816b992991add74ff057386b591d9b11a64bb9218bd9bb", func := "anvil/anvillaw09.DenoteKnown", spec := "denoteKnown", inPlace := ["internal/bytealg.IndexByteString", "internal/bytealg.IndexString", "internal/abi.NoEscape", "internal/bytealg.MakeNoZero"], unfollowed := true, recurses := true, named := ["unicode/utf8.first", "unicode/utf8.acceptRanges", "internal/bytealg.MaxLen"], apart := false, laid := [("unicode/utf8.acceptRanges", laid_unicode_utf8_acceptRanges), ("unicode/utf8.first", laid_unicode_utf8_first)] }
def DenoteKnownSaid : Prop := denoteKnownRow.holds Tryz.pinned (OpenSpec.ofChange denoteKnownSpec)

/-- ITS FALSE NEIGHBOUR: 'it returns false'. Refute it at one input. -/
def denoteKnownWrong : ChangeSpec := { name := "denoteKnown", fn := fun _ => fun
  | [] => { results := [.lit (.bool false)], args := [] }
  | _ => none }
def DenoteKnownWrongFalsely : Prop := denoteKnownRow.holds Tryz.pinned (OpenSpec.ofChange denoteKnownWrong)

/-- 'anvillaw05.MatrixDets': WHATEVER THE INPUT: true; the input reads as it did. -/
def matrixDetsSpec : ChangeSpec := { name := "matrixDets", fn := fun _ => fun
  | [d1, d2] => { results := [.lit (.bool true)], args := [d1, d2] }
  | _ => none }
def matrixDetsRow : OpenClaim := { program := "ytbmaffijncapiaagreatdoor", sum := "a3b1e87220b34e8a43816b992991add74ff057386b591d9b11a64bb9218bd9bb", func := "anvil/anvillaw05.MatrixDets", spec := "matrixDets", inPlace := ["internal/bytealg.IndexByteString", "internal/bytealg.IndexString", "internal/abi.NoEscape", "internal/bytealg.MakeNoZero"], unfollowed := true, recurses := true, named := ["unicode/utf8.first", "unicode/utf8.acceptRanges", "internal/bytealg.MaxLen"], apart := false, laid := [("unicode/utf8.acceptRanges", laid_unicode_utf8_acceptRanges), ("unicode/utf8.first", laid_unicode_utf8_first)] }
def MatrixDetsSaid : Prop := matrixDetsRow.holds Tryz.pinned (OpenSpec.ofChange matrixDetsSpec)

/-- ITS FALSE NEIGHBOUR: 'it returns false'. Refute it at one input. -/
def matrixDetsWrong : ChangeSpec := { name := "matrixDets", fn := fun _ => fun
  | [d1, d2] => { results := [.lit (.bool false)], args := [d1, d2] }
  | _ => none }
def MatrixDetsWrongFalsely : Prop := matrixDetsRow.holds Tryz.pinned (OpenSpec.ofChange matrixDetsWrong)

/-- 'anvillaw05.MatrixInverts': WHATEVER THE INPUT: true; the input reads as it did. -/
def matrixInvertsSpec : ChangeSpec := { name := "matrixInverts", fn := fun _ => fun
  | [d1, d2] => { results := [.lit (.bool true)], args := [d1, d2] }
  | _ => none }
def matrixInvertsRow : OpenClaim := { program := "ytbmaffijncapiaagreatdoor", sum := "a3b1e87220b34e8a43816b992991add74ff057386b591d9b11a64bb9218bd9bb", func := "anvil/anvillaw05.MatrixInverts", spec := "matrixInverts", inPlace := ["internal/bytealg.IndexByteString", "internal/bytealg.IndexString", "internal/abi.NoEscape", "internal/bytealg.MakeNoZero"], unfollowed := true, recurses := true, named := ["unicode/utf8.first", "unicode/utf8.acceptRanges", "internal/bytealg.MaxLen"], apart := false, laid := [("unicode/utf8.acceptRanges", laid_unicode_utf8_acceptRanges), ("unicode/utf8.first", laid_unicode_utf8_first)] }
def MatrixInvertsSaid : Prop := matrixInvertsRow.holds Tryz.pinned (OpenSpec.ofChange matrixInvertsSpec)

/-- ITS FALSE NEIGHBOUR: 'it returns false'. Refute it at one input. -/
def matrixInvertsWrong : ChangeSpec := { name := "matrixInverts", fn := fun _ => fun
  | [d1, d2] => { results := [.lit (.bool false)], args := [d1, d2] }
  | _ => none }
def MatrixInvertsWrongFalsely : Prop := matrixInvertsRow.holds Tryz.pinned (OpenSpec.ofChange matrixInvertsWrong)

/-- 'anvillaw07.SchemeMatrices': WHATEVER THE INPUT: true; the input reads as it did. -/
def schemeMatricesSpec : ChangeSpec := { name := "schemeMatrices", fn := fun _ => fun
  | [d1, d2, d3] => { results := [.lit (.bool true)], args := [d1, d2, d3] }
  | _ => none }
def schemeMatricesRow : OpenClaim := { program := "ytbmaffijncapiaagreatdoor", sum := "a3b1e87220b34e8a43816b992991add74ff057386b591d9b11a64bb9218bd9bb", func := "anvil/anvillaw07.SchemeMatrices", spec := "schemeMatrices", inPlace := ["internal/bytealg.IndexByteString", "internal/bytealg.IndexString", "internal/abi.NoEscape", "internal/bytealg.MakeNoZero"], unfollowed := true, recurses := true, named := ["unicode/utf8.first", "unicode/utf8.acceptRanges", "internal/bytealg.MaxLen"], apart := false, laid := [("unicode/utf8.acceptRanges", laid_unicode_utf8_acceptRanges), ("unicode/utf8.first", laid_unicode_utf8_first)] }
def SchemeMatricesSaid : Prop := schemeMatricesRow.holds Tryz.pinned (OpenSpec.ofChange schemeMatricesSpec)

/-- ITS FALSE NEIGHBOUR: 'it returns false'. Refute it at one input. -/
def schemeMatricesWrong : ChangeSpec := { name := "schemeMatrices", fn := fun _ => fun
  | [d1, d2, d3] => { results := [.lit (.bool false)], args := [d1, d2, d3] }
  | _ => none }
def SchemeMatricesWrongFalsely : Prop := schemeMatricesRow.holds Tryz.pinned (OpenSpec.ofChange schemeMatricesWrong)

/- THE SECOND FORM. 'bulk': how many values and letters a reading holds, each counted each time it is reached (what is shared counts as often as it is met; a slice's spare places count too). A statement '..UptoSaid' is the law's where the arguments, and the package variables that the reading takes, are together of bulk at most 1048576: NARROWER than '..Said'. Prove '..Said' where nothing that the law and all that it calls make is longer than what came in: it says more and counts as full. Else prove '..UptoSaid'. A law counts once. -/
mutual
def uptoBulk {H : Type} : DataW H → Nat
  | .lit (.string bytes) => bytes.length + 1
  | .lit _ => 1
  | .nil => 1
  | .ptr d => uptoBulk d + 1
  | .slice elems spare => uptoBulkAll elems + uptoBulkAll spare + 1
  | .agg parts => uptoBulkAll parts + 1
  | .iface _ d => uptoBulk d + 1
  | .map entries => uptoBulkEntries entries + 1
  | .held _ => 1
def uptoBulkAll {H : Type} : List (DataW H) → Nat
  | [] => 0
  | d :: r => uptoBulk d + uptoBulkAll r
def uptoBulkEntries {H : Type} : List (Lit × DataW H) → Nat
  | [] => 0
  | x :: r => uptoBulkEntry x + uptoBulkEntries r
def uptoBulkEntry {H : Type} : Lit × DataW H → Nat
  | (.string bytes, d) => bytes.length + uptoBulk d + 1
  | (_, d) => uptoBulk d + 1
 end
def uptoSmall : (H : Type) → List (DataW H) → Bool := fun _ ds => decide (uptoBulkAll ds ≤ 1048576)
def OpenSpec.upto (s : _root_.Go.ChangeSpec) : _root_.Go.OpenSpec := { _root_.Go.OpenSpec.ofChange s with cond := some uptoSmall }

/-- 'anvillaw09.DenoteRows', WHERE WHAT IT READS IS OF BULK AT MOST 1048576: true; the input reads as it did. -/
def denoteRowsUptoRow : OpenClaim := { program := "ytbmaffijncapiaagreatdoor", sum := "a3b1e87220b34e8a43816b992991add74ff057386b591d9b11a64bb9218bd9bb", func := "anvil/anvillaw09.DenoteRows", spec := "denoteRows", inPlace := ["internal/bytealg.IndexByteString", "internal/bytealg.IndexString", "internal/abi.NoEscape", "internal/bytealg.MakeNoZero"], unfollowed := true, recurses := true, named := ["unicode/utf8.first", "unicode/utf8.acceptRanges", "internal/bytealg.MaxLen"], apart := false, laid := [("unicode/utf8.acceptRanges", laid_unicode_utf8_acceptRanges), ("unicode/utf8.first", laid_unicode_utf8_first)], narrowed := true }
def DenoteRowsUptoSaid : Prop := denoteRowsUptoRow.holds Tryz.pinned (OpenSpec.upto denoteRowsSpec)

/-- 'anvillaw09.DenoteApplies', WHERE WHAT IT READS IS OF BULK AT MOST 1048576: true; the input reads as it did. -/
def denoteAppliesUptoRow : OpenClaim := { program := "ytbmaffijncapiaagreatdoor", sum := "a3b1e87220b34e8a43816b992991add74ff057386b591d9b11a64bb9218bd9bb", func := "anvil/anvillaw09.DenoteApplies", spec := "denoteApplies", inPlace := ["internal/bytealg.IndexByteString", "internal/bytealg.IndexString", "internal/abi.NoEscape", "internal/bytealg.MakeNoZero"], unfollowed := true, recurses := true, named := ["unicode/utf8.first", "unicode/utf8.acceptRanges", "internal/bytealg.MaxLen"], apart := false, laid := [("unicode/utf8.acceptRanges", laid_unicode_utf8_acceptRanges), ("unicode/utf8.first", laid_unicode_utf8_first)], narrowed := true }
def DenoteAppliesUptoSaid : Prop := denoteAppliesUptoRow.holds Tryz.pinned (OpenSpec.upto denoteAppliesSpec)

/-- 'anvillaw09.DenoteSames', WHERE WHAT IT READS IS OF BULK AT MOST 1048576: true; the input reads as it did. -/
def denoteSamesUptoRow : OpenClaim := { program := "ytbmaffijncapiaagreatdoor", sum := "a3b1e87220b34e8a43816b992991add74ff057386b591d9b11a64bb9218bd9bb", func := "anvil/anvillaw09.DenoteSames", spec := "denoteSames", inPlace := ["internal/bytealg.IndexByteString", "internal/bytealg.IndexString", "internal/abi.NoEscape", "internal/bytealg.MakeNoZero"], unfollowed := true, recurses := true, named := ["unicode/utf8.first", "unicode/utf8.acceptRanges", "internal/bytealg.MaxLen"], apart := false, laid := [("unicode/utf8.acceptRanges", laid_unicode_utf8_acceptRanges), ("unicode/utf8.first", laid_unicode_utf8_first)], narrowed := true }
def DenoteSamesUptoSaid : Prop := denoteSamesUptoRow.holds Tryz.pinned (OpenSpec.upto denoteSamesSpec)

/-- 'anvillaw09.DenoteLinear', WHERE WHAT IT READS IS OF BULK AT MOST 1048576: true; the input reads as it did. -/
def denoteLinearUptoRow : OpenClaim := { program := "ytbmaffijncapiaagreatdoor", sum := "a3b1e87220b34e8a43816b992991add74ff057386b591d9b11a64bb9218bd9bb", func := "anvil/anvillaw09.DenoteLinear", spec := "denoteLinear", inPlace := ["internal/bytealg.IndexByteString", "internal/bytealg.IndexString", "internal/abi.NoEscape", "internal/bytealg.MakeNoZero"], unfollowed := true, recurses := true, named := ["unicode/utf8.first", "unicode/utf8.acceptRanges", "internal/bytealg.MaxLen"], apart := false, laid := [("unicode/utf8.acceptRanges", laid_unicode_utf8_acceptRanges), ("unicode/utf8.first", laid_unicode_utf8_first)], narrowed := true }
def DenoteLinearUptoSaid : Prop := denoteLinearUptoRow.holds Tryz.pinned (OpenSpec.upto denoteLinearSpec)

/-- 'anvillaw09.DenoteHolds', WHERE WHAT IT READS IS OF BULK AT MOST 1048576: true; the input reads as it did. -/
def denoteHoldsUptoRow : OpenClaim := { program := "ytbmaffijncapiaagreatdoor", sum := "a3b1e87220b34e8a43816b992991add74ff057386b591d9b11a64bb9218bd9bb", func := "anvil/anvillaw09.DenoteHolds", spec := "denoteHolds", inPlace := ["internal/bytealg.IndexByteString", "internal/bytealg.IndexString", "internal/abi.NoEscape", "internal/bytealg.MakeNoZero"], unfollowed := true, recurses := true, named := ["unicode/utf8.first", "unicode/utf8.acceptRanges", "internal/bytealg.MaxLen"], apart := false, laid := [("unicode/utf8.acceptRanges", laid_unicode_utf8_acceptRanges), ("unicode/utf8.first", laid_unicode_utf8_first)], narrowed := true }
def DenoteHoldsUptoSaid : Prop := denoteHoldsUptoRow.holds Tryz.pinned (OpenSpec.upto denoteHoldsSpec)

/-- 'anvillaw09.DenoteLast', WHERE WHAT IT READS IS OF BULK AT MOST 1048576: true; the input reads as it did. -/
def denoteLastUptoRow : OpenClaim := { program := "ytbmaffijncapiaagreatdoor", sum := "a3b1e87220b34e8a43816b992991add74ff057386b591d9b11a64bb9218bd9bb", func := "anvil/anvillaw09.DenoteLast", spec := "denoteLast", inPlace := ["internal/bytealg.IndexByteString", "internal/bytealg.IndexString", "internal/abi.NoEscape", "internal/bytealg.MakeNoZero"], unfollowed := true, recurses := true, named := ["unicode/utf8.first", "unicode/utf8.acceptRanges", "internal/bytealg.MaxLen"], apart := false, laid := [("unicode/utf8.acceptRanges", laid_unicode_utf8_acceptRanges), ("unicode/utf8.first", laid_unicode_utf8_first)], narrowed := true }
def DenoteLastUptoSaid : Prop := denoteLastUptoRow.holds Tryz.pinned (OpenSpec.upto denoteLastSpec)

/-- 'anvillaw09.DenoteJoined', WHERE WHAT IT READS IS OF BULK AT MOST 1048576: true; the input reads as it did. -/
def denoteJoinedUptoRow : OpenClaim := { program := "ytbmaffijncapiaagreatdoor", sum := "a3b1e87220b34e8a43816b992991add74ff057386b591d9b11a64bb9218bd9bb", func := "anvil/anvillaw09.DenoteJoined", spec := "denoteJoined", inPlace := ["internal/bytealg.IndexByteString", "internal/bytealg.IndexString", "internal/abi.NoEscape", "internal/bytealg.MakeNoZero"], unfollowed := true, recurses := true, named := ["unicode/utf8.first", "unicode/utf8.acceptRanges", "internal/bytealg.MaxLen"], apart := false, laid := [("unicode/utf8.acceptRanges", laid_unicode_utf8_acceptRanges), ("unicode/utf8.first", laid_unicode_utf8_first)], narrowed := true }
def DenoteJoinedUptoSaid : Prop := denoteJoinedUptoRow.holds Tryz.pinned (OpenSpec.upto denoteJoinedSpec)

/-- 'anvillaw09.DenoteKnown', WHERE WHAT IT READS IS OF BULK AT MOST 1048576: true; the input reads as it did. -/
def denoteKnownUptoRow : OpenClaim := { program := "ytbmaffijncapiaagreatdoor", sum := "a3b1e87220b34e8a43816b992991add74ff057386b591d9b11a64bb9218bd9bb", func := "anvil/anvillaw09.DenoteKnown", spec := "denoteKnown", inPlace := ["internal/bytealg.IndexByteString", "internal/bytealg.IndexString", "internal/abi.NoEscape", "internal/bytealg.MakeNoZero"], unfollowed := true, recurses := true, named := ["unicode/utf8.first", "unicode/utf8.acceptRanges", "internal/bytealg.MaxLen"], apart := false, laid := [("unicode/utf8.acceptRanges", laid_unicode_utf8_acceptRanges), ("unicode/utf8.first", laid_unicode_utf8_first)], narrowed := true }
def DenoteKnownUptoSaid : Prop := denoteKnownUptoRow.holds Tryz.pinned (OpenSpec.upto denoteKnownSpec)

/-- 'anvillaw05.MatrixDets', WHERE WHAT IT READS IS OF BULK AT MOST 1048576: true; the input reads as it did. -/
def matrixDetsUptoRow : OpenClaim := { program := "ytbmaffijncapiaagreatdoor", sum := "a3b1e87220b34e8a43816b992991add74ff057386b591d9b11a64bb9218bd9bb", func := "anvil/anvillaw05.MatrixDets", spec := "matrixDets", inPlace := ["internal/bytealg.IndexByteString", "internal/bytealg.IndexString", "internal/abi.NoEscape", "internal/bytealg.MakeNoZero"], unfollowed := true, recurses := true, named := ["unicode/utf8.first", "unicode/utf8.acceptRanges", "internal/bytealg.MaxLen"], apart := false, laid := [("unicode/utf8.acceptRanges", laid_unicode_utf8_acceptRanges), ("unicode/utf8.first", laid_unicode_utf8_first)], narrowed := true }
def MatrixDetsUptoSaid : Prop := matrixDetsUptoRow.holds Tryz.pinned (OpenSpec.upto matrixDetsSpec)

/-- 'anvillaw05.MatrixInverts', WHERE WHAT IT READS IS OF BULK AT MOST 1048576: true; the input reads as it did. -/
def matrixInvertsUptoRow : OpenClaim := { program := "ytbmaffijncapiaagreatdoor", sum := "a3b1e87220b34e8a43816b992991add74ff057386b591d9b11a64bb9218bd9bb", func := "anvil/anvillaw05.MatrixInverts", spec := "matrixInverts", inPlace := ["internal/bytealg.IndexByteString", "internal/bytealg.IndexString", "internal/abi.NoEscape", "internal/bytealg.MakeNoZero"], unfollowed := true, recurses := true, named := ["unicode/utf8.first", "unicode/utf8.acceptRanges", "internal/bytealg.MaxLen"], apart := false, laid := [("unicode/utf8.acceptRanges", laid_unicode_utf8_acceptRanges), ("unicode/utf8.first", laid_unicode_utf8_first)], narrowed := true }
def MatrixInvertsUptoSaid : Prop := matrixInvertsUptoRow.holds Tryz.pinned (OpenSpec.upto matrixInvertsSpec)

/-- 'anvillaw07.SchemeMatrices', WHERE WHAT IT READS IS OF BULK AT MOST 1048576: true; the input reads as it did. -/
def schemeMatricesUptoRow : OpenClaim := { program := "ytbmaffijncapiaagreatdoor", sum := "a3b1e87220b34e8a43816b992991add74ff057386b591d9b11a64bb9218bd9bb", func := "anvil/anvillaw07.SchemeMatrices", spec := "schemeMatrices", inPlace := ["internal/bytealg.IndexByteString", "internal/bytealg.IndexString", "internal/abi.NoEscape", "internal/bytealg.MakeNoZero"], unfollowed := true, recurses := true, named := ["unicode/utf8.first", "unicode/utf8.acceptRanges", "internal/bytealg.MaxLen"], apart := false, laid := [("unicode/utf8.acceptRanges", laid_unicode_utf8_acceptRanges), ("unicode/utf8.first", laid_unicode_utf8_first)], narrowed := true }
def SchemeMatricesUptoSaid : Prop := schemeMatricesUptoRow.holds Tryz.pinned (OpenSpec.upto schemeMatricesSpec)

end Rows
end Go.Proofs.YtbmaffijncapiaaGreatDoor
