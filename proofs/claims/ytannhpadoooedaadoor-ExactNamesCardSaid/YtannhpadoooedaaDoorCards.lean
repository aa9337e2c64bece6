/-
  DERIVED. GIVEN WITH THE SEED: THE CARDS: each row of YtannhpadoooedaaDoorRows.lean that lists a variable, with what it lists TIED to the program's text (the seventh form; the later family's looks); each row that meets fmt, with fmt's text TOLD by the authors' own Lean function (tested against real Go, not proved from fmt's source: count such statements apart). THE CARD IS WHAT COUNTS. Prove the row's statement (the work); the ties are given (YtannhpadoooedaaDoorTie.lean); close each card by the builder's one call (the guide's Derived/Test/ToyasCard.lean, 'card_holds'). Laid BY PROGRAM, IN A SANDBOX (cutbox-door.mjs). By AI agents, Wed Nov 11 2026. No macro, syntax, notation, axiom, sorry.
-/
import Derived.Test.YtannhpadoooedaaDoorRows
import GoSem.ClaimSeven
namespace Go.Proofs.YtannhpadoooedaaDoor
namespace Rows

/-- THE TIED CARD OF 'anvillaw19.VmSums'. -/
def vmSumsCard : Claim7 := { stood := { row := vmSumsRow, standIns := [], harness := (true, "adf0c2d24c4d24a1866bc3b9e9483f56280806624c36cf574a4de6fc1b94d378"), looks := false }, kinds := [], alts := [], laidByText := true, laidKinds := [.data, .data, .pinned], laidTests := true, laidLooks := .later }
def VmSumsCardSaid : Prop := Claim7.holds Tryd.pinned (.plain (OpenSpec.ofChange vmSumsSpec)) vmSumsCard

/-- THE TIED CARD OF 'anvillaw19.VmKnown'. -/
def vmKnownCard : Claim7 := { stood := { row := vmKnownRow, standIns := [], harness := (true, "adf0c2d24c4d24a1866bc3b9e9483f56280806624c36cf574a4de6fc1b94d378"), looks := false }, kinds := [], alts := [], laidByText := true, laidKinds := [.data, .data, .pinned], laidTests := true, laidLooks := .later }
def VmKnownCardSaid : Prop := Claim7.holds Tryd.pinned (.plain (OpenSpec.ofChange vmKnownSpec)) vmKnownCard

/-- THE TIED CARD OF 'anvillaw10.ExactColumns'. -/
def exactColumnsCard : Claim7 := { stood := { row := exactColumnsRow, standIns := [], harness := (true, "adf0c2d24c4d24a1866bc3b9e9483f56280806624c36cf574a4de6fc1b94d378"), looks := false }, kinds := [], alts := [], laidByText := true, laidKinds := [.data, .pinned], laidTests := true, laidLooks := .later }
def ExactColumnsCardSaid : Prop := Claim7.holds Tryd.pinned (.plain (OpenSpec.ofChange exactColumnsSpec)) exactColumnsCard

/-- THE TIED CARD OF 'anvillaw10.ExactNames'. -/
def exactNamesCard : Claim7 := { stood := { row := exactNamesRow, standIns := [], harness := (true, "adf0c2d24c4d24a1866bc3b9e9483f56280806624c36cf574a4de6fc1b94d378"), looks := false }, kinds := [], alts := [], laidByText := true, laidKinds := [.data, .pinned], laidTests := true, laidLooks := .later }
def ExactNamesCardSaid : Prop := Claim7.holds Tryd.pinned (.plain (OpenSpec.ofChange exactNamesSpec)) exactNamesCard

/-- THE SECOND FORM's CARD OF 'anvillaw19.VmSums'. -/
def vmSumsUptoCard : Claim7 := { stood := { row := vmSumsUptoRow, standIns := [], harness := (true, "adf0c2d24c4d24a1866bc3b9e9483f56280806624c36cf574a4de6fc1b94d378"), looks := false }, kinds := [], alts := [], laidByText := true, laidKinds := [.data, .data, .pinned], laidTests := true, laidLooks := .later }
def VmSumsUptoCardSaid : Prop := Claim7.holds Tryd.pinned (.plain (OpenSpec.upto vmSumsSpec)) vmSumsUptoCard

/-- THE SECOND FORM's CARD OF 'anvillaw19.VmKnown'. -/
def vmKnownUptoCard : Claim7 := { stood := { row := vmKnownUptoRow, standIns := [], harness := (true, "adf0c2d24c4d24a1866bc3b9e9483f56280806624c36cf574a4de6fc1b94d378"), looks := false }, kinds := [], alts := [], laidByText := true, laidKinds := [.data, .data, .pinned], laidTests := true, laidLooks := .later }
def VmKnownUptoCardSaid : Prop := Claim7.holds Tryd.pinned (.plain (OpenSpec.upto vmKnownSpec)) vmKnownUptoCard

/-- THE SECOND FORM's CARD OF 'anvillaw10.ExactColumns'. -/
def exactColumnsUptoCard : Claim7 := { stood := { row := exactColumnsUptoRow, standIns := [], harness := (true, "adf0c2d24c4d24a1866bc3b9e9483f56280806624c36cf574a4de6fc1b94d378"), looks := false }, kinds := [], alts := [], laidByText := true, laidKinds := [.data, .pinned], laidTests := true, laidLooks := .later }
def ExactColumnsUptoCardSaid : Prop := Claim7.holds Tryd.pinned (.plain (OpenSpec.upto exactColumnsSpec)) exactColumnsUptoCard

/-- THE SECOND FORM's CARD OF 'anvillaw10.ExactNames'. -/
def exactNamesUptoCard : Claim7 := { stood := { row := exactNamesUptoRow, standIns := [], harness := (true, "adf0c2d24c4d24a1866bc3b9e9483f56280806624c36cf574a4de6fc1b94d378"), looks := false }, kinds := [], alts := [], laidByText := true, laidKinds := [.data, .pinned], laidTests := true, laidLooks := .later }
def ExactNamesUptoCardSaid : Prop := Claim7.holds Tryd.pinned (.plain (OpenSpec.upto exactNamesSpec)) exactNamesUptoCard
end Rows
end Go.Proofs.YtannhpadoooedaaDoor
