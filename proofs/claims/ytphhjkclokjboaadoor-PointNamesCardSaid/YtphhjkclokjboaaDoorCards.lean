/-
  DERIVED. GIVEN WITH THE SEED: THE CARDS: each row of YtphhjkclokjboaaDoorRows.lean that lists a variable, with what it lists TIED to the program's text (the seventh form; the later family's looks); each row that meets fmt, with fmt's text TOLD by the authors' own Lean function (tested against real Go, not proved from fmt's source: count such statements apart). THE CARD IS WHAT COUNTS. Prove the row's statement (the work); the ties are given (YtphhjkclokjboaaDoorTie.lean); close each card by the builder's one call (the guide's Derived/Test/ToyasCard.lean, 'card_holds'). Laid BY PROGRAM, IN A SANDBOX (cutbox-door.mjs). By AI agents, Wed Nov 11 2026. No macro, syntax, notation, axiom, sorry.
-/
import Derived.Test.YtphhjkclokjboaaDoorRows
import GoSem.ClaimSeven
namespace Go.Proofs.YtphhjkclokjboaaDoor
namespace Rows

/-- THE TIED CARD OF 'anvillaw06.PointReads'. -/
def pointReadsCard : Claim7 := { stood := { row := pointReadsRow, standIns := [], harness := (true, "13b6620afea7d5a975a8e01eb582c6ea36ff18a10d04909fd34db1bdfd27193d"), looks := true }, kinds := [], alts := [], laidByText := true, laidKinds := [.data, .data, .data, .data, .sentinel, .sentinel, .pinned], laidTests := true, laidLooks := .later }
def PointReadsCardSaid : Prop := Claim7.holds Tryd.pinned (.plain (OpenSpec.ofChange pointReadsSpec)) pointReadsCard

/-- THE TIED CARD OF 'anvillaw06.PointNames'. -/
def pointNamesCard : Claim7 := { stood := { row := pointNamesRow, standIns := [], harness := (true, "13b6620afea7d5a975a8e01eb582c6ea36ff18a10d04909fd34db1bdfd27193d"), looks := true }, kinds := [], alts := [], laidByText := true, laidKinds := [.data, .data, .data, .data, .sentinel, .sentinel, .pinned], laidTests := true, laidLooks := .later }
def PointNamesCardSaid : Prop := Claim7.holds Tryd.pinned (.plain (OpenSpec.ofChange pointNamesSpec)) pointNamesCard

/-- THE SECOND FORM's CARD OF 'anvillaw06.PointReads'. -/
def pointReadsUptoCard : Claim7 := { stood := { row := pointReadsUptoRow, standIns := [], harness := (true, "13b6620afea7d5a975a8e01eb582c6ea36ff18a10d04909fd34db1bdfd27193d"), looks := true }, kinds := [], alts := [], laidByText := true, laidKinds := [.data, .data, .data, .data, .sentinel, .sentinel, .pinned], laidTests := true, laidLooks := .later }
def PointReadsUptoCardSaid : Prop := Claim7.holds Tryd.pinned (.plain (OpenSpec.upto pointReadsSpec)) pointReadsUptoCard

/-- THE SECOND FORM's CARD OF 'anvillaw06.PointNames'. -/
def pointNamesUptoCard : Claim7 := { stood := { row := pointNamesUptoRow, standIns := [], harness := (true, "13b6620afea7d5a975a8e01eb582c6ea36ff18a10d04909fd34db1bdfd27193d"), looks := true }, kinds := [], alts := [], laidByText := true, laidKinds := [.data, .data, .data, .data, .sentinel, .sentinel, .pinned], laidTests := true, laidLooks := .later }
def PointNamesUptoCardSaid : Prop := Claim7.holds Tryd.pinned (.plain (OpenSpec.upto pointNamesSpec)) pointNamesUptoCard
end Rows
end Go.Proofs.YtphhjkclokjboaaDoor
