/-
  DERIVED. GIVEN WITH THE SEED: THE CARDS: each row of YtkejdmdldhlkgaaGreatDoorRows.lean that lists a variable, with what it lists TIED to the program's text (the seventh form; the later family's looks); each row that meets fmt, with fmt's text TOLD by the authors' own Lean function (tested against real Go, not proved from fmt's source: count such statements apart). THE CARD IS WHAT COUNTS. Prove the row's statement (the work); the ties are given (YtkejdmdldhlkgaaGreatDoorTie.lean); close each card by the builder's one call (the guide's Derived/Test/ToyasCard.lean, 'card_holds'). Laid BY PROGRAM, IN A SANDBOX (cutbox-door.mjs). By AI agents, Wed Nov 11 2026. No macro, syntax, notation, axiom, sorry.
-/
import Derived.Test.YtkejdmdldhlkgaaGreatDoorRows
import GoSem.ClaimSeven
namespace Go.Proofs.YtkejdmdldhlkgaaGreatDoor
namespace Rows

/-- THE TIED CARD OF 'anvillaw07.SchemeMatrices'. -/
def schemeMatricesCard : Claim7 := { stood := { row := schemeMatricesRow, standIns := [], harness := (true, "1f70f8d70ab434ef4ce08d14eb38c6f42bf47e8181c30972b20e0f0b0195635a"), looks := false }, kinds := [], alts := [], laidByText := true, laidKinds := [.data, .pinned], laidTests := true, laidLooks := .later }
def SchemeMatricesCardSaid : Prop := Claim7.holds Tryz.pinned (.plain (OpenSpec.ofChange schemeMatricesSpec)) schemeMatricesCard

/-- THE TIED CARD OF 'anvillaw07.SchemeProduct'. -/
def schemeProductCard : Claim7 := { stood := { row := schemeProductRow, standIns := [], harness := (true, "1f70f8d70ab434ef4ce08d14eb38c6f42bf47e8181c30972b20e0f0b0195635a"), looks := false }, kinds := [], alts := [], laidByText := true, laidKinds := [.data, .pinned], laidTests := true, laidLooks := .later }
def SchemeProductCardSaid : Prop := Claim7.holds Tryz.pinned (.plain (OpenSpec.ofChange schemeProductSpec)) schemeProductCard

/-- THE TIED CARD OF 'anvillaw07.SchemeFlat'. -/
def schemeFlatCard : Claim7 := { stood := { row := schemeFlatRow, standIns := [], harness := (true, "1f70f8d70ab434ef4ce08d14eb38c6f42bf47e8181c30972b20e0f0b0195635a"), looks := false }, kinds := [], alts := [], laidByText := true, laidKinds := [.data, .pinned], laidTests := true, laidLooks := .later }
def SchemeFlatCardSaid : Prop := Claim7.holds Tryz.pinned (.plain (OpenSpec.ofChange schemeFlatSpec)) schemeFlatCard

/-- THE TIED CARD OF 'anvillaw07.SchemeNews'. -/
def schemeNewsCard : Claim7 := { stood := { row := schemeNewsRow, standIns := [], harness := (true, "1f70f8d70ab434ef4ce08d14eb38c6f42bf47e8181c30972b20e0f0b0195635a"), looks := false }, kinds := [], alts := [], laidByText := true, laidKinds := [.data, .data, .data, .data, .pinned], laidTests := true, laidLooks := .later }
def SchemeNewsCardSaid : Prop := Claim7.holds Tryz.pinned (.plain (OpenSpec.ofChange schemeNewsSpec)) schemeNewsCard

/-- THE SECOND FORM's CARD OF 'anvillaw07.SchemeMatrices'. -/
def schemeMatricesUptoCard : Claim7 := { stood := { row := schemeMatricesUptoRow, standIns := [], harness := (true, "1f70f8d70ab434ef4ce08d14eb38c6f42bf47e8181c30972b20e0f0b0195635a"), looks := false }, kinds := [], alts := [], laidByText := true, laidKinds := [.data, .pinned], laidTests := true, laidLooks := .later }
def SchemeMatricesUptoCardSaid : Prop := Claim7.holds Tryz.pinned (.plain (OpenSpec.upto schemeMatricesSpec)) schemeMatricesUptoCard

/-- THE SECOND FORM's CARD OF 'anvillaw07.SchemeProduct'. -/
def schemeProductUptoCard : Claim7 := { stood := { row := schemeProductUptoRow, standIns := [], harness := (true, "1f70f8d70ab434ef4ce08d14eb38c6f42bf47e8181c30972b20e0f0b0195635a"), looks := false }, kinds := [], alts := [], laidByText := true, laidKinds := [.data, .pinned], laidTests := true, laidLooks := .later }
def SchemeProductUptoCardSaid : Prop := Claim7.holds Tryz.pinned (.plain (OpenSpec.upto schemeProductSpec)) schemeProductUptoCard

/-- THE SECOND FORM's CARD OF 'anvillaw07.SchemeFlat'. -/
def schemeFlatUptoCard : Claim7 := { stood := { row := schemeFlatUptoRow, standIns := [], harness := (true, "1f70f8d70ab434ef4ce08d14eb38c6f42bf47e8181c30972b20e0f0b0195635a"), looks := false }, kinds := [], alts := [], laidByText := true, laidKinds := [.data, .pinned], laidTests := true, laidLooks := .later }
def SchemeFlatUptoCardSaid : Prop := Claim7.holds Tryz.pinned (.plain (OpenSpec.upto schemeFlatSpec)) schemeFlatUptoCard

/-- THE SECOND FORM's CARD OF 'anvillaw07.SchemeNews'. -/
def schemeNewsUptoCard : Claim7 := { stood := { row := schemeNewsUptoRow, standIns := [], harness := (true, "1f70f8d70ab434ef4ce08d14eb38c6f42bf47e8181c30972b20e0f0b0195635a"), looks := false }, kinds := [], alts := [], laidByText := true, laidKinds := [.data, .data, .data, .data, .pinned], laidTests := true, laidLooks := .later }
def SchemeNewsUptoCardSaid : Prop := Claim7.holds Tryz.pinned (.plain (OpenSpec.upto schemeNewsSpec)) schemeNewsUptoCard
end Rows
end Go.Proofs.YtkejdmdldhlkgaaGreatDoor
