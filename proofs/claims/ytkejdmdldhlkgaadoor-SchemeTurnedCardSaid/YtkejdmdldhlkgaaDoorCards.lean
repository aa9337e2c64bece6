/-
  DERIVED. GIVEN WITH THE SEED: THE CARDS: each row of YtkejdmdldhlkgaaDoorRows.lean that lists a variable, with what it lists TIED to the program's text (the seventh form; the later family's looks); each row that meets fmt, with fmt's text TOLD by the authors' own Lean function (tested against real Go, not proved from fmt's source: count such statements apart). THE CARD IS WHAT COUNTS. Prove the row's statement (the work); the ties are given (YtkejdmdldhlkgaaDoorTie.lean); close each card by the builder's one call (the guide's Derived/Test/ToyasCard.lean, 'card_holds'). Laid BY PROGRAM, IN A SANDBOX (cutbox-door.mjs). By AI agents, Wed Nov 11 2026. No macro, syntax, notation, axiom, sorry.
-/
import Derived.Test.YtkejdmdldhlkgaaDoorRows
import GoSem.ClaimSeven
namespace Go.Proofs.YtkejdmdldhlkgaaDoor
namespace Rows

/-- THE TIED CARD OF 'anvillaw07.SchemeSames'. -/
def schemeSamesCard : Claim7 := { stood := { row := schemeSamesRow, standIns := [], harness := (true, "369536d9a15ec72c6d39e706bf19ec25a98708fc85b9f46ca31758a90cfb8a73"), looks := false }, kinds := [], alts := [], laidByText := true, laidKinds := [.data, .pinned], laidTests := true, laidLooks := .later }
def SchemeSamesCardSaid : Prop := Claim7.holds Tryd.pinned (.plain (OpenSpec.ofChange schemeSamesSpec)) schemeSamesCard

/-- THE TIED CARD OF 'anvillaw07.SchemeTurned'. -/
def schemeTurnedCard : Claim7 := { stood := { row := schemeTurnedRow, standIns := [], harness := (true, "369536d9a15ec72c6d39e706bf19ec25a98708fc85b9f46ca31758a90cfb8a73"), looks := false }, kinds := [], alts := [], laidByText := true, laidKinds := [.data, .pinned], laidTests := true, laidLooks := .later }
def SchemeTurnedCardSaid : Prop := Claim7.holds Tryd.pinned (.plain (OpenSpec.ofChange schemeTurnedSpec)) schemeTurnedCard

/-- THE SECOND FORM's CARD OF 'anvillaw07.SchemeSames'. -/
def schemeSamesUptoCard : Claim7 := { stood := { row := schemeSamesUptoRow, standIns := [], harness := (true, "369536d9a15ec72c6d39e706bf19ec25a98708fc85b9f46ca31758a90cfb8a73"), looks := false }, kinds := [], alts := [], laidByText := true, laidKinds := [.data, .pinned], laidTests := true, laidLooks := .later }
def SchemeSamesUptoCardSaid : Prop := Claim7.holds Tryd.pinned (.plain (OpenSpec.upto schemeSamesSpec)) schemeSamesUptoCard

/-- THE SECOND FORM's CARD OF 'anvillaw07.SchemeTurned'. -/
def schemeTurnedUptoCard : Claim7 := { stood := { row := schemeTurnedUptoRow, standIns := [], harness := (true, "369536d9a15ec72c6d39e706bf19ec25a98708fc85b9f46ca31758a90cfb8a73"), looks := false }, kinds := [], alts := [], laidByText := true, laidKinds := [.data, .pinned], laidTests := true, laidLooks := .later }
def SchemeTurnedUptoCardSaid : Prop := Claim7.holds Tryd.pinned (.plain (OpenSpec.upto schemeTurnedSpec)) schemeTurnedUptoCard
end Rows
end Go.Proofs.YtkejdmdldhlkgaaDoor
