/-
  DERIVED. GIVEN WITH THE SEED: THE CARDS: each row of YtannhpadoooedaaGreatDoorRows.lean that lists a variable, with what it lists TIED to the program's text (the seventh form; the later family's looks); each row that meets fmt, with fmt's text TOLD by the authors' own Lean function (tested against real Go, not proved from fmt's source: count such statements apart). THE CARD IS WHAT COUNTS. Prove the row's statement (the work); the ties are given (YtannhpadoooedaaGreatDoorTie.lean); close each card by the builder's one call (the guide's Derived/Test/ToyasCard.lean, 'card_holds'). Laid BY PROGRAM, IN A SANDBOX (cutbox-door.mjs). By AI agents, Wed Nov 11 2026. No macro, syntax, notation, axiom, sorry.
-/
import Derived.Test.YtannhpadoooedaaGreatDoorRows
import GoSem.ClaimSeven
namespace Go.Proofs.YtannhpadoooedaaGreatDoor
namespace Rows

/-- THE TIED CARD OF 'anvillaw10.ExactRuns'. -/
def exactRunsCard : Claim7 := { stood := { row := exactRunsRow, standIns := [], harness := (true, "86c6d26d083718ab467bcbe71ae5745eaed9598f81c5aa19d744f7824e377ef8"), looks := false }, kinds := [], alts := [], laidByText := true, laidKinds := [.data, .pinned], laidTests := true, laidLooks := .later }
def ExactRunsCardSaid : Prop := Claim7.holds Tryz.pinned (.plain (OpenSpec.ofChange exactRunsSpec)) exactRunsCard

/-- THE TIED CARD OF 'anvillaw19.VmRuns'. -/
def vmRunsCard : Claim7 := { stood := { row := vmRunsRow, standIns := [], harness := (true, "86c6d26d083718ab467bcbe71ae5745eaed9598f81c5aa19d744f7824e377ef8"), looks := false }, kinds := [], alts := [], laidByText := true, laidKinds := [.data, .data, .pinned], laidTests := true, laidLooks := .later }
def VmRunsCardSaid : Prop := Claim7.holds Tryz.pinned (.plain (OpenSpec.ofChange vmRunsSpec)) vmRunsCard

/-- THE TIED CARD OF 'anvillaw19.VmStepped'. -/
def vmSteppedCard : Claim7 := { stood := { row := vmSteppedRow, standIns := [], harness := (true, "86c6d26d083718ab467bcbe71ae5745eaed9598f81c5aa19d744f7824e377ef8"), looks := false }, kinds := [], alts := [], laidByText := true, laidKinds := [.data, .data, .pinned], laidTests := true, laidLooks := .later }
def VmSteppedCardSaid : Prop := Claim7.holds Tryz.pinned (.plain (OpenSpec.ofChange vmSteppedSpec)) vmSteppedCard

/-- THE TIED CARD OF 'anvillaw19.VmPlays'. -/
def vmPlaysCard : Claim7 := { stood := { row := vmPlaysRow, standIns := [], harness := (true, "86c6d26d083718ab467bcbe71ae5745eaed9598f81c5aa19d744f7824e377ef8"), looks := false }, kinds := [], alts := [], laidByText := true, laidKinds := [.data, .data, .pinned], laidTests := true, laidLooks := .later }
def VmPlaysCardSaid : Prop := Claim7.holds Tryz.pinned (.plain (OpenSpec.ofChange vmPlaysSpec)) vmPlaysCard

/-- THE TIED CARD OF 'anvillaw19.VmColumns'. -/
def vmColumnsCard : Claim7 := { stood := { row := vmColumnsRow, standIns := [], harness := (true, "86c6d26d083718ab467bcbe71ae5745eaed9598f81c5aa19d744f7824e377ef8"), looks := false }, kinds := [], alts := [], laidByText := true, laidKinds := [.data, .data, .pinned], laidTests := true, laidLooks := .later }
def VmColumnsCardSaid : Prop := Claim7.holds Tryz.pinned (.plain (OpenSpec.ofChange vmColumnsSpec)) vmColumnsCard

/-- THE TIED CARD OF 'anvillaw10.ExactFollows'. -/
def exactFollowsCard : Claim7 := { stood := { row := exactFollowsRow, standIns := [], harness := (true, "86c6d26d083718ab467bcbe71ae5745eaed9598f81c5aa19d744f7824e377ef8"), looks := false }, kinds := [], alts := [], laidByText := true, laidKinds := [.data, .pinned], laidTests := true, laidLooks := .later }
def ExactFollowsCardSaid : Prop := Claim7.holds Tryz.pinned (.plain (OpenSpec.ofChange exactFollowsSpec)) exactFollowsCard

/-- THE TIED CARD OF 'anvillaw10.ExactAll'. -/
def exactAllCard : Claim7 := { stood := { row := exactAllRow, standIns := [], harness := (true, "86c6d26d083718ab467bcbe71ae5745eaed9598f81c5aa19d744f7824e377ef8"), looks := false }, kinds := [], alts := [], laidByText := true, laidKinds := [.data, .pinned], laidTests := true, laidLooks := .later }
def ExactAllCardSaid : Prop := Claim7.holds Tryz.pinned (.plain (OpenSpec.ofChange exactAllSpec)) exactAllCard

/-- THE SECOND FORM's CARD OF 'anvillaw10.ExactRuns'. -/
def exactRunsUptoCard : Claim7 := { stood := { row := exactRunsUptoRow, standIns := [], harness := (true, "86c6d26d083718ab467bcbe71ae5745eaed9598f81c5aa19d744f7824e377ef8"), looks := false }, kinds := [], alts := [], laidByText := true, laidKinds := [.data, .pinned], laidTests := true, laidLooks := .later }
def ExactRunsUptoCardSaid : Prop := Claim7.holds Tryz.pinned (.plain (OpenSpec.upto exactRunsSpec)) exactRunsUptoCard

/-- THE SECOND FORM's CARD OF 'anvillaw19.VmRuns'. -/
def vmRunsUptoCard : Claim7 := { stood := { row := vmRunsUptoRow, standIns := [], harness := (true, "86c6d26d083718ab467bcbe71ae5745eaed9598f81c5aa19d744f7824e377ef8"), looks := false }, kinds := [], alts := [], laidByText := true, laidKinds := [.data, .data, .pinned], laidTests := true, laidLooks := .later }
def VmRunsUptoCardSaid : Prop := Claim7.holds Tryz.pinned (.plain (OpenSpec.upto vmRunsSpec)) vmRunsUptoCard

/-- THE SECOND FORM's CARD OF 'anvillaw19.VmStepped'. -/
def vmSteppedUptoCard : Claim7 := { stood := { row := vmSteppedUptoRow, standIns := [], harness := (true, "86c6d26d083718ab467bcbe71ae5745eaed9598f81c5aa19d744f7824e377ef8"), looks := false }, kinds := [], alts := [], laidByText := true, laidKinds := [.data, .data, .pinned], laidTests := true, laidLooks := .later }
def VmSteppedUptoCardSaid : Prop := Claim7.holds Tryz.pinned (.plain (OpenSpec.upto vmSteppedSpec)) vmSteppedUptoCard

/-- THE SECOND FORM's CARD OF 'anvillaw19.VmPlays'. -/
def vmPlaysUptoCard : Claim7 := { stood := { row := vmPlaysUptoRow, standIns := [], harness := (true, "86c6d26d083718ab467bcbe71ae5745eaed9598f81c5aa19d744f7824e377ef8"), looks := false }, kinds := [], alts := [], laidByText := true, laidKinds := [.data, .data, .pinned], laidTests := true, laidLooks := .later }
def VmPlaysUptoCardSaid : Prop := Claim7.holds Tryz.pinned (.plain (OpenSpec.upto vmPlaysSpec)) vmPlaysUptoCard

/-- THE SECOND FORM's CARD OF 'anvillaw19.VmColumns'. -/
def vmColumnsUptoCard : Claim7 := { stood := { row := vmColumnsUptoRow, standIns := [], harness := (true, "86c6d26d083718ab467bcbe71ae5745eaed9598f81c5aa19d744f7824e377ef8"), looks := false }, kinds := [], alts := [], laidByText := true, laidKinds := [.data, .data, .pinned], laidTests := true, laidLooks := .later }
def VmColumnsUptoCardSaid : Prop := Claim7.holds Tryz.pinned (.plain (OpenSpec.upto vmColumnsSpec)) vmColumnsUptoCard

/-- THE SECOND FORM's CARD OF 'anvillaw10.ExactFollows'. -/
def exactFollowsUptoCard : Claim7 := { stood := { row := exactFollowsUptoRow, standIns := [], harness := (true, "86c6d26d083718ab467bcbe71ae5745eaed9598f81c5aa19d744f7824e377ef8"), looks := false }, kinds := [], alts := [], laidByText := true, laidKinds := [.data, .pinned], laidTests := true, laidLooks := .later }
def ExactFollowsUptoCardSaid : Prop := Claim7.holds Tryz.pinned (.plain (OpenSpec.upto exactFollowsSpec)) exactFollowsUptoCard

/-- THE SECOND FORM's CARD OF 'anvillaw10.ExactAll'. -/
def exactAllUptoCard : Claim7 := { stood := { row := exactAllUptoRow, standIns := [], harness := (true, "86c6d26d083718ab467bcbe71ae5745eaed9598f81c5aa19d744f7824e377ef8"), looks := false }, kinds := [], alts := [], laidByText := true, laidKinds := [.data, .pinned], laidTests := true, laidLooks := .later }
def ExactAllUptoCardSaid : Prop := Claim7.holds Tryz.pinned (.plain (OpenSpec.upto exactAllSpec)) exactAllUptoCard
end Rows
end Go.Proofs.YtannhpadoooedaaGreatDoor
