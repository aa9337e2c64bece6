/-
  DERIVED. GIVEN WITH THE SEED: THE CARDS: each row of YthlphfjmdgcpdaaGreatDoorRows.lean that lists a variable, with what it lists TIED to the program's text (the seventh form; the later family's looks); each row that meets fmt, with fmt's text TOLD by the authors' own Lean function (tested against real Go, not proved from fmt's source: count such statements apart). THE CARD IS WHAT COUNTS. Prove the row's statement (the work); the ties are given (YthlphfjmdgcpdaaGreatDoorTie.lean); close each card by the builder's one call (the guide's Derived/Test/ToyasCard.lean, 'card_holds'). Laid BY PROGRAM, IN A SANDBOX (cutbox-door.mjs). By AI agents, Wed Nov 11 2026. No macro, syntax, notation, axiom, sorry.
-/
import Derived.Test.YthlphfjmdgcpdaaGreatDoorRows
import GoSem.ClaimSeven
namespace Go.Proofs.YthlphfjmdgcpdaaGreatDoor
namespace Rows

/-- THE TIED CARD OF 'anvillaw05.MatrixDets'. -/
def matrixDetsCard : Claim7 := { stood := { row := matrixDetsRow, standIns := [], harness := (true, "90de88d85c7632ec756452544efd36fbb519540ac97550e82e3b2e35983796da"), looks := false }, kinds := [], alts := [], laidByText := true, laidKinds := [.data, .pinned], laidTests := true, laidLooks := .later }
def MatrixDetsCardSaid : Prop := Claim7.holds Tryz.pinned (.plain (OpenSpec.ofChange matrixDetsSpec)) matrixDetsCard

/-- THE TIED CARD OF 'anvillaw05.MatrixMakes'. -/
def matrixMakesCard : Claim7 := { stood := { row := matrixMakesRow, standIns := [], harness := (true, "90de88d85c7632ec756452544efd36fbb519540ac97550e82e3b2e35983796da"), looks := false }, kinds := [], alts := [], laidByText := true, laidKinds := [.data, .pinned], laidTests := true, laidLooks := .later }
def MatrixMakesCardSaid : Prop := Claim7.holds Tryz.pinned (.plain (OpenSpec.ofChange matrixMakesSpec)) matrixMakesCard

/-- THE TIED CARD OF 'anvillaw05.MatrixInverts'. -/
def matrixInvertsCard : Claim7 := { stood := { row := matrixInvertsRow, standIns := [], harness := (true, "90de88d85c7632ec756452544efd36fbb519540ac97550e82e3b2e35983796da"), looks := false }, kinds := [], alts := [], laidByText := true, laidKinds := [.data, .pinned], laidTests := true, laidLooks := .later }
def MatrixInvertsCardSaid : Prop := Claim7.holds Tryz.pinned (.plain (OpenSpec.ofChange matrixInvertsSpec)) matrixInvertsCard

/-- THE TIED CARD OF 'anvillaw05.MatrixKnown'. -/
def matrixKnownCard : Claim7 := { stood := { row := matrixKnownRow, standIns := [], harness := (true, "90de88d85c7632ec756452544efd36fbb519540ac97550e82e3b2e35983796da"), looks := false }, kinds := [], alts := [], laidByText := true, laidKinds := [.data, .pinned], laidTests := true, laidLooks := .later }
def MatrixKnownCardSaid : Prop := Claim7.holds Tryz.pinned (.plain (OpenSpec.ofChange matrixKnownSpec)) matrixKnownCard

/-- THE SECOND FORM's CARD OF 'anvillaw05.MatrixDets'. -/
def matrixDetsUptoCard : Claim7 := { stood := { row := matrixDetsUptoRow, standIns := [], harness := (true, "90de88d85c7632ec756452544efd36fbb519540ac97550e82e3b2e35983796da"), looks := false }, kinds := [], alts := [], laidByText := true, laidKinds := [.data, .pinned], laidTests := true, laidLooks := .later }
def MatrixDetsUptoCardSaid : Prop := Claim7.holds Tryz.pinned (.plain (OpenSpec.upto matrixDetsSpec)) matrixDetsUptoCard

/-- THE SECOND FORM's CARD OF 'anvillaw05.MatrixMakes'. -/
def matrixMakesUptoCard : Claim7 := { stood := { row := matrixMakesUptoRow, standIns := [], harness := (true, "90de88d85c7632ec756452544efd36fbb519540ac97550e82e3b2e35983796da"), looks := false }, kinds := [], alts := [], laidByText := true, laidKinds := [.data, .pinned], laidTests := true, laidLooks := .later }
def MatrixMakesUptoCardSaid : Prop := Claim7.holds Tryz.pinned (.plain (OpenSpec.upto matrixMakesSpec)) matrixMakesUptoCard

/-- THE SECOND FORM's CARD OF 'anvillaw05.MatrixInverts'. -/
def matrixInvertsUptoCard : Claim7 := { stood := { row := matrixInvertsUptoRow, standIns := [], harness := (true, "90de88d85c7632ec756452544efd36fbb519540ac97550e82e3b2e35983796da"), looks := false }, kinds := [], alts := [], laidByText := true, laidKinds := [.data, .pinned], laidTests := true, laidLooks := .later }
def MatrixInvertsUptoCardSaid : Prop := Claim7.holds Tryz.pinned (.plain (OpenSpec.upto matrixInvertsSpec)) matrixInvertsUptoCard

/-- THE SECOND FORM's CARD OF 'anvillaw05.MatrixKnown'. -/
def matrixKnownUptoCard : Claim7 := { stood := { row := matrixKnownUptoRow, standIns := [], harness := (true, "90de88d85c7632ec756452544efd36fbb519540ac97550e82e3b2e35983796da"), looks := false }, kinds := [], alts := [], laidByText := true, laidKinds := [.data, .pinned], laidTests := true, laidLooks := .later }
def MatrixKnownUptoCardSaid : Prop := Claim7.holds Tryz.pinned (.plain (OpenSpec.upto matrixKnownSpec)) matrixKnownUptoCard
end Rows
end Go.Proofs.YthlphfjmdgcpdaaGreatDoor
