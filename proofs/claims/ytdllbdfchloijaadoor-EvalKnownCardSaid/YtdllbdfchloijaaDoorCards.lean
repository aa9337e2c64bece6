/-
  DERIVED. GIVEN WITH THE SEED: THE CARDS: each row of YtdllbdfchloijaaDoorRows.lean that lists a variable, with what it lists TIED to the program's text (the seventh form; the later family's looks); each row that meets fmt, with fmt's text TOLD by the authors' own Lean function (tested against real Go, not proved from fmt's source: count such statements apart). THE CARD IS WHAT COUNTS. Prove the row's statement (the work); the ties are given (YtdllbdfchloijaaDoorTie.lean); close each card by the builder's one call (the guide's Derived/Test/ToyasCard.lean, 'card_holds'). Laid BY PROGRAM, IN A SANDBOX (cutbox-door.mjs). By AI agents, Wed Nov 11 2026. No macro, syntax, notation, axiom, sorry.
-/
import Derived.Test.YtdllbdfchloijaaDoorRows
import GoSem.ClaimSeven
namespace Go.Proofs.YtdllbdfchloijaaDoor
namespace Rows

/-- THE TIED CARD OF 'anvillaw11.EvalProducts'. -/
def evalProductsCard : Claim7 := { stood := { row := evalProductsRow, standIns := [], harness := (true, "1932162024830a274b45b985037ee619d44160657b4e6bce5b266bbf0b234dc3"), looks := false }, kinds := [], alts := [], laidByText := true, laidKinds := [.data, .data, .data, .pinned], laidTests := true, laidLooks := .later }
def EvalProductsCardSaid : Prop := Claim7.holds Tryd.pinned (.plain (OpenSpec.ofChange evalProductsSpec)) evalProductsCard

/-- THE TIED CARD OF 'anvillaw11.EvalKnown'. -/
def evalKnownCard : Claim7 := { stood := { row := evalKnownRow, standIns := [], harness := (true, "1932162024830a274b45b985037ee619d44160657b4e6bce5b266bbf0b234dc3"), looks := false }, kinds := [], alts := [], laidByText := true, laidKinds := [.data, .data, .data, .pinned], laidTests := true, laidLooks := .later }
def EvalKnownCardSaid : Prop := Claim7.holds Tryd.pinned (.plain (OpenSpec.ofChange evalKnownSpec)) evalKnownCard

/-- THE TIED CARD OF 'anvillaw11.EvalTurned'. -/
def evalTurnedCard : Claim7 := { stood := { row := evalTurnedRow, standIns := [], harness := (true, "1932162024830a274b45b985037ee619d44160657b4e6bce5b266bbf0b234dc3"), looks := false }, kinds := [], alts := [], laidByText := true, laidKinds := [.data, .data, .data, .pinned], laidTests := true, laidLooks := .later }
def EvalTurnedCardSaid : Prop := Claim7.holds Tryd.pinned (.plain (OpenSpec.ofChange evalTurnedSpec)) evalTurnedCard

/-- THE SECOND FORM's CARD OF 'anvillaw11.EvalProducts'. -/
def evalProductsUptoCard : Claim7 := { stood := { row := evalProductsUptoRow, standIns := [], harness := (true, "1932162024830a274b45b985037ee619d44160657b4e6bce5b266bbf0b234dc3"), looks := false }, kinds := [], alts := [], laidByText := true, laidKinds := [.data, .data, .data, .pinned], laidTests := true, laidLooks := .later }
def EvalProductsUptoCardSaid : Prop := Claim7.holds Tryd.pinned (.plain (OpenSpec.upto evalProductsSpec)) evalProductsUptoCard

/-- THE SECOND FORM's CARD OF 'anvillaw11.EvalKnown'. -/
def evalKnownUptoCard : Claim7 := { stood := { row := evalKnownUptoRow, standIns := [], harness := (true, "1932162024830a274b45b985037ee619d44160657b4e6bce5b266bbf0b234dc3"), looks := false }, kinds := [], alts := [], laidByText := true, laidKinds := [.data, .data, .data, .pinned], laidTests := true, laidLooks := .later }
def EvalKnownUptoCardSaid : Prop := Claim7.holds Tryd.pinned (.plain (OpenSpec.upto evalKnownSpec)) evalKnownUptoCard

/-- THE SECOND FORM's CARD OF 'anvillaw11.EvalTurned'. -/
def evalTurnedUptoCard : Claim7 := { stood := { row := evalTurnedUptoRow, standIns := [], harness := (true, "1932162024830a274b45b985037ee619d44160657b4e6bce5b266bbf0b234dc3"), looks := false }, kinds := [], alts := [], laidByText := true, laidKinds := [.data, .data, .data, .pinned], laidTests := true, laidLooks := .later }
def EvalTurnedUptoCardSaid : Prop := Claim7.holds Tryd.pinned (.plain (OpenSpec.upto evalTurnedSpec)) evalTurnedUptoCard
end Rows
end Go.Proofs.YtdllbdfchloijaaDoor
