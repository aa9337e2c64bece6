/-
  DERIVED. GIVEN WITH THE SEED: THE CARDS: each row of YthaohpfbengabaaDoorRows.lean that lists a variable, with what it lists TIED to the program's text (the seventh form; the later family's looks); each row that meets fmt, with fmt's text TOLD by the authors' own Lean function (tested against real Go, not proved from fmt's source: count such statements apart). THE CARD IS WHAT COUNTS. Prove the row's statement (the work); the ties are given (YthaohpfbengabaaDoorTie.lean); close each card by the builder's one call (the guide's Derived/Test/ToyasCard.lean, 'card_holds'). Laid BY PROGRAM, IN A SANDBOX (cutbox-door.mjs). By AI agents, Wed Nov 11 2026. No macro, syntax, notation, axiom, sorry.
-/
import Derived.Test.YthaohpfbengabaaDoorRows
import GoSem.ClaimSeven
namespace Go.Proofs.YthaohpfbengabaaDoor
namespace Rows

/-- THE TIED CARD OF 'anvillaw05.MatrixDetTimes'. -/
def matrixDetTimesCard : Claim7 := { stood := { row := matrixDetTimesRow, standIns := [], harness := (true, "fb2ce1b0ea89e15e70ea02c6997e8aa86ce7b78973b3a8426043355a184181c5"), looks := false }, kinds := [], alts := [], laidByText := true, laidKinds := [.data, .pinned], laidTests := true, laidLooks := .later }
def MatrixDetTimesCardSaid : Prop := Claim7.holds Tryd.pinned (.plain (OpenSpec.ofChange matrixDetTimesSpec)) matrixDetTimesCard

/-- THE TIED CARD OF 'anvillaw05.MatrixUnits'. -/
def matrixUnitsCard : Claim7 := { stood := { row := matrixUnitsRow, standIns := [], harness := (true, "fb2ce1b0ea89e15e70ea02c6997e8aa86ce7b78973b3a8426043355a184181c5"), looks := false }, kinds := [], alts := [], laidByText := true, laidKinds := [.data, .pinned], laidTests := true, laidLooks := .later }
def MatrixUnitsCardSaid : Prop := Claim7.holds Tryd.pinned (.plain (OpenSpec.ofChange matrixUnitsSpec)) matrixUnitsCard

/-- THE TIED CARD OF 'anvillaw05.MatrixRing'. -/
def matrixRingCard : Claim7 := { stood := { row := matrixRingRow, standIns := [], harness := (true, "fb2ce1b0ea89e15e70ea02c6997e8aa86ce7b78973b3a8426043355a184181c5"), looks := false }, kinds := [], alts := [], laidByText := true, laidKinds := [.data, .pinned], laidTests := true, laidLooks := .later }
def MatrixRingCardSaid : Prop := Claim7.holds Tryd.pinned (.plain (OpenSpec.ofChange matrixRingSpec)) matrixRingCard

/-- THE TIED CARD OF 'anvillaw05.MatrixBack'. -/
def matrixBackCard : Claim7 := { stood := { row := matrixBackRow, standIns := [], harness := (true, "fb2ce1b0ea89e15e70ea02c6997e8aa86ce7b78973b3a8426043355a184181c5"), looks := false }, kinds := [], alts := [], laidByText := true, laidKinds := [.data, .pinned], laidTests := true, laidLooks := .later }
def MatrixBackCardSaid : Prop := Claim7.holds Tryd.pinned (.plain (OpenSpec.ofChange matrixBackSpec)) matrixBackCard

/-- THE SECOND FORM's CARD OF 'anvillaw05.MatrixDetTimes'. -/
def matrixDetTimesUptoCard : Claim7 := { stood := { row := matrixDetTimesUptoRow, standIns := [], harness := (true, "fb2ce1b0ea89e15e70ea02c6997e8aa86ce7b78973b3a8426043355a184181c5"), looks := false }, kinds := [], alts := [], laidByText := true, laidKinds := [.data, .pinned], laidTests := true, laidLooks := .later }
def MatrixDetTimesUptoCardSaid : Prop := Claim7.holds Tryd.pinned (.plain (OpenSpec.upto matrixDetTimesSpec)) matrixDetTimesUptoCard

/-- THE SECOND FORM's CARD OF 'anvillaw05.MatrixUnits'. -/
def matrixUnitsUptoCard : Claim7 := { stood := { row := matrixUnitsUptoRow, standIns := [], harness := (true, "fb2ce1b0ea89e15e70ea02c6997e8aa86ce7b78973b3a8426043355a184181c5"), looks := false }, kinds := [], alts := [], laidByText := true, laidKinds := [.data, .pinned], laidTests := true, laidLooks := .later }
def MatrixUnitsUptoCardSaid : Prop := Claim7.holds Tryd.pinned (.plain (OpenSpec.upto matrixUnitsSpec)) matrixUnitsUptoCard

/-- THE SECOND FORM's CARD OF 'anvillaw05.MatrixRing'. -/
def matrixRingUptoCard : Claim7 := { stood := { row := matrixRingUptoRow, standIns := [], harness := (true, "fb2ce1b0ea89e15e70ea02c6997e8aa86ce7b78973b3a8426043355a184181c5"), looks := false }, kinds := [], alts := [], laidByText := true, laidKinds := [.data, .pinned], laidTests := true, laidLooks := .later }
def MatrixRingUptoCardSaid : Prop := Claim7.holds Tryd.pinned (.plain (OpenSpec.upto matrixRingSpec)) matrixRingUptoCard

/-- THE SECOND FORM's CARD OF 'anvillaw05.MatrixBack'. -/
def matrixBackUptoCard : Claim7 := { stood := { row := matrixBackUptoRow, standIns := [], harness := (true, "fb2ce1b0ea89e15e70ea02c6997e8aa86ce7b78973b3a8426043355a184181c5"), looks := false }, kinds := [], alts := [], laidByText := true, laidKinds := [.data, .pinned], laidTests := true, laidLooks := .later }
def MatrixBackUptoCardSaid : Prop := Claim7.holds Tryd.pinned (.plain (OpenSpec.upto matrixBackSpec)) matrixBackUptoCard
end Rows
end Go.Proofs.YthaohpfbengabaaDoor
