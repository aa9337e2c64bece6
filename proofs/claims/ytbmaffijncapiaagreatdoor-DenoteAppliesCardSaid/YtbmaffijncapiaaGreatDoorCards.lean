/-
  DERIVED. GIVEN WITH THE SEED: THE CARDS: each row of YtbmaffijncapiaaGreatDoorRows.lean that lists a variable, with what it lists TIED to the program's text (the seventh form; the later family's looks); each row that meets fmt, with fmt's text TOLD by the authors' own Lean function (tested against real Go, not proved from fmt's source: count such statements apart). THE CARD IS WHAT COUNTS. Prove the row's statement (the work); the ties are given (YtbmaffijncapiaaGreatDoorTie.lean); close each card by the builder's one call (the guide's Derived/Test/ToyasCard.lean, 'card_holds'). Laid BY PROGRAM, IN A SANDBOX (cutbox-door.mjs). By AI agents, Wed Nov 11 2026. No macro, syntax, notation, axiom, sorry.
-/
import Derived.Test.YtbmaffijncapiaaGreatDoorRows
import GoSem.ClaimSeven
namespace Go.Proofs.YtbmaffijncapiaaGreatDoor
namespace Rows

/-- THE TIED CARD OF 'anvillaw09.DenoteRows'. -/
def denoteRowsCard : Claim7 := { stood := { row := denoteRowsRow, standIns := [], harness := (true, "f739c11607fe4c0d887adc38908be2de0b3787fe8c373d428dc640487d0dda39"), looks := false }, kinds := [], alts := [], laidByText := true, laidKinds := [.data, .pinned], laidTests := true, laidLooks := .later }
def DenoteRowsCardSaid : Prop := Claim7.holds Tryz.pinned (.plain (OpenSpec.ofChange denoteRowsSpec)) denoteRowsCard

/-- THE TIED CARD OF 'anvillaw09.DenoteApplies'. -/
def denoteAppliesCard : Claim7 := { stood := { row := denoteAppliesRow, standIns := [], harness := (true, "f739c11607fe4c0d887adc38908be2de0b3787fe8c373d428dc640487d0dda39"), looks := false }, kinds := [], alts := [], laidByText := true, laidKinds := [.data, .pinned], laidTests := true, laidLooks := .later }
def DenoteAppliesCardSaid : Prop := Claim7.holds Tryz.pinned (.plain (OpenSpec.ofChange denoteAppliesSpec)) denoteAppliesCard

/-- THE TIED CARD OF 'anvillaw09.DenoteSames'. -/
def denoteSamesCard : Claim7 := { stood := { row := denoteSamesRow, standIns := [], harness := (true, "f739c11607fe4c0d887adc38908be2de0b3787fe8c373d428dc640487d0dda39"), looks := false }, kinds := [], alts := [], laidByText := true, laidKinds := [.data, .pinned], laidTests := true, laidLooks := .later }
def DenoteSamesCardSaid : Prop := Claim7.holds Tryz.pinned (.plain (OpenSpec.ofChange denoteSamesSpec)) denoteSamesCard

/-- THE TIED CARD OF 'anvillaw09.DenoteLinear'. -/
def denoteLinearCard : Claim7 := { stood := { row := denoteLinearRow, standIns := [], harness := (true, "f739c11607fe4c0d887adc38908be2de0b3787fe8c373d428dc640487d0dda39"), looks := false }, kinds := [], alts := [], laidByText := true, laidKinds := [.data, .pinned], laidTests := true, laidLooks := .later }
def DenoteLinearCardSaid : Prop := Claim7.holds Tryz.pinned (.plain (OpenSpec.ofChange denoteLinearSpec)) denoteLinearCard

/-- THE TIED CARD OF 'anvillaw09.DenoteHolds'. -/
def denoteHoldsCard : Claim7 := { stood := { row := denoteHoldsRow, standIns := [], harness := (true, "f739c11607fe4c0d887adc38908be2de0b3787fe8c373d428dc640487d0dda39"), looks := false }, kinds := [], alts := [], laidByText := true, laidKinds := [.data, .pinned], laidTests := true, laidLooks := .later }
def DenoteHoldsCardSaid : Prop := Claim7.holds Tryz.pinned (.plain (OpenSpec.ofChange denoteHoldsSpec)) denoteHoldsCard

/-- THE TIED CARD OF 'anvillaw09.DenoteLast'. -/
def denoteLastCard : Claim7 := { stood := { row := denoteLastRow, standIns := [], harness := (true, "f739c11607fe4c0d887adc38908be2de0b3787fe8c373d428dc640487d0dda39"), looks := false }, kinds := [], alts := [], laidByText := true, laidKinds := [.data, .pinned], laidTests := true, laidLooks := .later }
def DenoteLastCardSaid : Prop := Claim7.holds Tryz.pinned (.plain (OpenSpec.ofChange denoteLastSpec)) denoteLastCard

/-- THE TIED CARD OF 'anvillaw09.DenoteJoined'. -/
def denoteJoinedCard : Claim7 := { stood := { row := denoteJoinedRow, standIns := [], harness := (true, "f739c11607fe4c0d887adc38908be2de0b3787fe8c373d428dc640487d0dda39"), looks := false }, kinds := [], alts := [], laidByText := true, laidKinds := [.data, .pinned], laidTests := true, laidLooks := .later }
def DenoteJoinedCardSaid : Prop := Claim7.holds Tryz.pinned (.plain (OpenSpec.ofChange denoteJoinedSpec)) denoteJoinedCard

/-- THE TIED CARD OF 'anvillaw09.DenoteKnown'. -/
def denoteKnownCard : Claim7 := { stood := { row := denoteKnownRow, standIns := [], harness := (true, "f739c11607fe4c0d887adc38908be2de0b3787fe8c373d428dc640487d0dda39"), looks := false }, kinds := [], alts := [], laidByText := true, laidKinds := [.data, .pinned], laidTests := true, laidLooks := .later }
def DenoteKnownCardSaid : Prop := Claim7.holds Tryz.pinned (.plain (OpenSpec.ofChange denoteKnownSpec)) denoteKnownCard

/-- THE TIED CARD OF 'anvillaw05.MatrixDets'. -/
def matrixDetsCard : Claim7 := { stood := { row := matrixDetsRow, standIns := [], harness := (true, "f739c11607fe4c0d887adc38908be2de0b3787fe8c373d428dc640487d0dda39"), looks := false }, kinds := [], alts := [], laidByText := true, laidKinds := [.data, .pinned], laidTests := true, laidLooks := .later }
def MatrixDetsCardSaid : Prop := Claim7.holds Tryz.pinned (.plain (OpenSpec.ofChange matrixDetsSpec)) matrixDetsCard

/-- THE TIED CARD OF 'anvillaw05.MatrixInverts'. -/
def matrixInvertsCard : Claim7 := { stood := { row := matrixInvertsRow, standIns := [], harness := (true, "f739c11607fe4c0d887adc38908be2de0b3787fe8c373d428dc640487d0dda39"), looks := false }, kinds := [], alts := [], laidByText := true, laidKinds := [.data, .pinned], laidTests := true, laidLooks := .later }
def MatrixInvertsCardSaid : Prop := Claim7.holds Tryz.pinned (.plain (OpenSpec.ofChange matrixInvertsSpec)) matrixInvertsCard

/-- THE TIED CARD OF 'anvillaw07.SchemeMatrices'. -/
def schemeMatricesCard : Claim7 := { stood := { row := schemeMatricesRow, standIns := [], harness := (true, "f739c11607fe4c0d887adc38908be2de0b3787fe8c373d428dc640487d0dda39"), looks := false }, kinds := [], alts := [], laidByText := true, laidKinds := [.data, .pinned], laidTests := true, laidLooks := .later }
def SchemeMatricesCardSaid : Prop := Claim7.holds Tryz.pinned (.plain (OpenSpec.ofChange schemeMatricesSpec)) schemeMatricesCard

/-- THE SECOND FORM's CARD OF 'anvillaw09.DenoteRows'. -/
def denoteRowsUptoCard : Claim7 := { stood := { row := denoteRowsUptoRow, standIns := [], harness := (true, "f739c11607fe4c0d887adc38908be2de0b3787fe8c373d428dc640487d0dda39"), looks := false }, kinds := [], alts := [], laidByText := true, laidKinds := [.data, .pinned], laidTests := true, laidLooks := .later }
def DenoteRowsUptoCardSaid : Prop := Claim7.holds Tryz.pinned (.plain (OpenSpec.upto denoteRowsSpec)) denoteRowsUptoCard

/-- THE SECOND FORM's CARD OF 'anvillaw09.DenoteApplies'. -/
def denoteAppliesUptoCard : Claim7 := { stood := { row := denoteAppliesUptoRow, standIns := [], harness := (true, "f739c11607fe4c0d887adc38908be2de0b3787fe8c373d428dc640487d0dda39"), looks := false }, kinds := [], alts := [], laidByText := true, laidKinds := [.data, .pinned], laidTests := true, laidLooks := .later }
def DenoteAppliesUptoCardSaid : Prop := Claim7.holds Tryz.pinned (.plain (OpenSpec.upto denoteAppliesSpec)) denoteAppliesUptoCard

/-- THE SECOND FORM's CARD OF 'anvillaw09.DenoteSames'. -/
def denoteSamesUptoCard : Claim7 := { stood := { row := denoteSamesUptoRow, standIns := [], harness := (true, "f739c11607fe4c0d887adc38908be2de0b3787fe8c373d428dc640487d0dda39"), looks := false }, kinds := [], alts := [], laidByText := true, laidKinds := [.data, .pinned], laidTests := true, laidLooks := .later }
def DenoteSamesUptoCardSaid : Prop := Claim7.holds Tryz.pinned (.plain (OpenSpec.upto denoteSamesSpec)) denoteSamesUptoCard

/-- THE SECOND FORM's CARD OF 'anvillaw09.DenoteLinear'. -/
def denoteLinearUptoCard : Claim7 := { stood := { row := denoteLinearUptoRow, standIns := [], harness := (true, "f739c11607fe4c0d887adc38908be2de0b3787fe8c373d428dc640487d0dda39"), looks := false }, kinds := [], alts := [], laidByText := true, laidKinds := [.data, .pinned], laidTests := true, laidLooks := .later }
def DenoteLinearUptoCardSaid : Prop := Claim7.holds Tryz.pinned (.plain (OpenSpec.upto denoteLinearSpec)) denoteLinearUptoCard

/-- THE SECOND FORM's CARD OF 'anvillaw09.DenoteHolds'. -/
def denoteHoldsUptoCard : Claim7 := { stood := { row := denoteHoldsUptoRow, standIns := [], harness := (true, "f739c11607fe4c0d887adc38908be2de0b3787fe8c373d428dc640487d0dda39"), looks := false }, kinds := [], alts := [], laidByText := true, laidKinds := [.data, .pinned], laidTests := true, laidLooks := .later }
def DenoteHoldsUptoCardSaid : Prop := Claim7.holds Tryz.pinned (.plain (OpenSpec.upto denoteHoldsSpec)) denoteHoldsUptoCard

/-- THE SECOND FORM's CARD OF 'anvillaw09.DenoteLast'. -/
def denoteLastUptoCard : Claim7 := { stood := { row := denoteLastUptoRow, standIns := [], harness := (true, "f739c11607fe4c0d887adc38908be2de0b3787fe8c373d428dc640487d0dda39"), looks := false }, kinds := [], alts := [], laidByText := true, laidKinds := [.data, .pinned], laidTests := true, laidLooks := .later }
def DenoteLastUptoCardSaid : Prop := Claim7.holds Tryz.pinned (.plain (OpenSpec.upto denoteLastSpec)) denoteLastUptoCard

/-- THE SECOND FORM's CARD OF 'anvillaw09.DenoteJoined'. -/
def denoteJoinedUptoCard : Claim7 := { stood := { row := denoteJoinedUptoRow, standIns := [], harness := (true, "f739c11607fe4c0d887adc38908be2de0b3787fe8c373d428dc640487d0dda39"), looks := false }, kinds := [], alts := [], laidByText := true, laidKinds := [.data, .pinned], laidTests := true, laidLooks := .later }
def DenoteJoinedUptoCardSaid : Prop := Claim7.holds Tryz.pinned (.plain (OpenSpec.upto denoteJoinedSpec)) denoteJoinedUptoCard

/-- THE SECOND FORM's CARD OF 'anvillaw09.DenoteKnown'. -/
def denoteKnownUptoCard : Claim7 := { stood := { row := denoteKnownUptoRow, standIns := [], harness := (true, "f739c11607fe4c0d887adc38908be2de0b3787fe8c373d428dc640487d0dda39"), looks := false }, kinds := [], alts := [], laidByText := true, laidKinds := [.data, .pinned], laidTests := true, laidLooks := .later }
def DenoteKnownUptoCardSaid : Prop := Claim7.holds Tryz.pinned (.plain (OpenSpec.upto denoteKnownSpec)) denoteKnownUptoCard

/-- THE SECOND FORM's CARD OF 'anvillaw05.MatrixDets'. -/
def matrixDetsUptoCard : Claim7 := { stood := { row := matrixDetsUptoRow, standIns := [], harness := (true, "f739c11607fe4c0d887adc38908be2de0b3787fe8c373d428dc640487d0dda39"), looks := false }, kinds := [], alts := [], laidByText := true, laidKinds := [.data, .pinned], laidTests := true, laidLooks := .later }
def MatrixDetsUptoCardSaid : Prop := Claim7.holds Tryz.pinned (.plain (OpenSpec.upto matrixDetsSpec)) matrixDetsUptoCard

/-- THE SECOND FORM's CARD OF 'anvillaw05.MatrixInverts'. -/
def matrixInvertsUptoCard : Claim7 := { stood := { row := matrixInvertsUptoRow, standIns := [], harness := (true, "f739c11607fe4c0d887adc38908be2de0b3787fe8c373d428dc640487d0dda39"), looks := false }, kinds := [], alts := [], laidByText := true, laidKinds := [.data, .pinned], laidTests := true, laidLooks := .later }
def MatrixInvertsUptoCardSaid : Prop := Claim7.holds Tryz.pinned (.plain (OpenSpec.upto matrixInvertsSpec)) matrixInvertsUptoCard

/-- THE SECOND FORM's CARD OF 'anvillaw07.SchemeMatrices'. -/
def schemeMatricesUptoCard : Claim7 := { stood := { row := schemeMatricesUptoRow, standIns := [], harness := (true, "f739c11607fe4c0d887adc38908be2de0b3787fe8c373d428dc640487d0dda39"), looks := false }, kinds := [], alts := [], laidByText := true, laidKinds := [.data, .pinned], laidTests := true, laidLooks := .later }
def SchemeMatricesUptoCardSaid : Prop := Claim7.holds Tryz.pinned (.plain (OpenSpec.upto schemeMatricesSpec)) schemeMatricesUptoCard
end Rows
end Go.Proofs.YtbmaffijncapiaaGreatDoor
