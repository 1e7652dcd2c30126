/-
  DERIVED. GIVEN WITH THE SEED: THE CARDS: each row of YtebokaoegomboaaGreatDoorRows.lean that lists a variable, with what it lists TIED to the program's text (the seventh form; the later family's looks); each row that meets fmt, with fmt's text TOLD by the authors' own Lean function (tested against real Go, not proved from fmt's source: count such statements apart). THE CARD IS WHAT COUNTS. Prove the row's statement (the work); the ties are given (YtebokaoegomboaaGreatDoorTie.lean); close each card by the builder's one call (the guide's Derived/Test/ToyasCard.lean, 'card_holds'). Laid BY PROGRAM, IN A SANDBOX (cutbox-door.mjs). By AI agents, Wed Nov 11 2026. No macro, syntax, notation, axiom, sorry.
-/
import Derived.Test.YtebokaoegomboaaGreatDoorRows
import GoSem.ClaimSeven
namespace Go.Proofs.YtebokaoegomboaaGreatDoor
namespace Rows

/-- THE TIED CARD OF 'filespacelaw17.SnapshotTimes'. -/
def snapshotTimesCard : Claim7 := { stood := { row := snapshotTimesRow, standIns := [], harness := (true, "f4a8688e6c204fcfc408696fb640ab80144ba37bb0c3205ca73bd984a580c6bf"), looks := false }, kinds := [], alts := [], laidByText := true, laidKinds := [.data, .data, .data, .data], laidTests := true, laidLooks := .later }
def SnapshotTimesCardSaid : Prop := Claim7.holds Tryz.pinned (.plain (OpenSpec.ofChange snapshotTimesSpec)) snapshotTimesCard

/-- THE TIED CARD OF 'filespacelaw17.SnapshotRight'. -/
def snapshotRightCard : Claim7 := { stood := { row := snapshotRightRow, standIns := [], harness := (true, "f4a8688e6c204fcfc408696fb640ab80144ba37bb0c3205ca73bd984a580c6bf"), looks := false }, kinds := [], alts := [], laidByText := true, laidKinds := [.data, .data, .data, .data], laidTests := true, laidLooks := .later }
def SnapshotRightCardSaid : Prop := Claim7.holds Tryz.pinned (.plain (OpenSpec.ofChange snapshotRightSpec)) snapshotRightCard

/-- THE TIED CARD OF 'filespacelaw17.SnapshotReads'. -/
def snapshotReadsCard : Claim7 := { stood := { row := snapshotReadsRow, standIns := [], harness := (true, "f4a8688e6c204fcfc408696fb640ab80144ba37bb0c3205ca73bd984a580c6bf"), looks := false }, kinds := [], alts := [], laidByText := true, laidKinds := [.data, .data, .data, .data], laidTests := true, laidLooks := .later }
def SnapshotReadsCardSaid : Prop := Claim7.holds Tryz.pinned (.plain (OpenSpec.ofChange snapshotReadsSpec)) snapshotReadsCard

/-- THE TIED CARD OF 'filespacelaw17.SnapshotPlays'. -/
def snapshotPlaysCard : Claim7 := { stood := { row := snapshotPlaysRow, standIns := [], harness := (true, "f4a8688e6c204fcfc408696fb640ab80144ba37bb0c3205ca73bd984a580c6bf"), looks := false }, kinds := [], alts := [], laidByText := true, laidKinds := [.data, .data, .data, .data], laidTests := true, laidLooks := .later }
def SnapshotPlaysCardSaid : Prop := Claim7.holds Tryz.pinned (.plain (OpenSpec.ofChange snapshotPlaysSpec)) snapshotPlaysCard

/-- THE TIED CARD OF 'filespacelaw17.SnapshotExact'. -/
def snapshotExactCard : Claim7 := { stood := { row := snapshotExactRow, standIns := [], harness := (true, "f4a8688e6c204fcfc408696fb640ab80144ba37bb0c3205ca73bd984a580c6bf"), looks := false }, kinds := [], alts := [], laidByText := true, laidKinds := [.data, .data, .data, .data], laidTests := true, laidLooks := .later }
def SnapshotExactCardSaid : Prop := Claim7.holds Tryz.pinned (.plain (OpenSpec.ofChange snapshotExactSpec)) snapshotExactCard

/-- THE TIED CARD OF 'filespacelaw17.SnapshotKeeps'. -/
def snapshotKeepsCard : Claim7 := { stood := { row := snapshotKeepsRow, standIns := [], harness := (true, "f4a8688e6c204fcfc408696fb640ab80144ba37bb0c3205ca73bd984a580c6bf"), looks := false }, kinds := [], alts := [], laidByText := true, laidKinds := [.data, .data, .data, .data], laidTests := true, laidLooks := .later }
def SnapshotKeepsCardSaid : Prop := Claim7.holds Tryz.pinned (.plain (OpenSpec.ofChange snapshotKeepsSpec)) snapshotKeepsCard

/-- THE TIED CARD OF 'filespacelaw17.SnapshotCalls'. -/
def snapshotCallsCard : Claim7 := { stood := { row := snapshotCallsRow, standIns := [], harness := (true, "f4a8688e6c204fcfc408696fb640ab80144ba37bb0c3205ca73bd984a580c6bf"), looks := false }, kinds := [], alts := [], laidByText := true, laidKinds := [.data, .data, .data, .data], laidTests := true, laidLooks := .later }
def SnapshotCallsCardSaid : Prop := Claim7.holds Tryz.pinned (.plain (OpenSpec.ofChange snapshotCallsSpec)) snapshotCallsCard

/-- THE SECOND FORM's CARD OF 'filespacelaw17.SnapshotTimes'. -/
def snapshotTimesUptoCard : Claim7 := { stood := { row := snapshotTimesUptoRow, standIns := [], harness := (true, "f4a8688e6c204fcfc408696fb640ab80144ba37bb0c3205ca73bd984a580c6bf"), looks := false }, kinds := [], alts := [], laidByText := true, laidKinds := [.data, .data, .data, .data], laidTests := true, laidLooks := .later }
def SnapshotTimesUptoCardSaid : Prop := Claim7.holds Tryz.pinned (.plain (OpenSpec.upto snapshotTimesSpec)) snapshotTimesUptoCard

/-- THE SECOND FORM's CARD OF 'filespacelaw17.SnapshotRight'. -/
def snapshotRightUptoCard : Claim7 := { stood := { row := snapshotRightUptoRow, standIns := [], harness := (true, "f4a8688e6c204fcfc408696fb640ab80144ba37bb0c3205ca73bd984a580c6bf"), looks := false }, kinds := [], alts := [], laidByText := true, laidKinds := [.data, .data, .data, .data], laidTests := true, laidLooks := .later }
def SnapshotRightUptoCardSaid : Prop := Claim7.holds Tryz.pinned (.plain (OpenSpec.upto snapshotRightSpec)) snapshotRightUptoCard

/-- THE SECOND FORM's CARD OF 'filespacelaw17.SnapshotReads'. -/
def snapshotReadsUptoCard : Claim7 := { stood := { row := snapshotReadsUptoRow, standIns := [], harness := (true, "f4a8688e6c204fcfc408696fb640ab80144ba37bb0c3205ca73bd984a580c6bf"), looks := false }, kinds := [], alts := [], laidByText := true, laidKinds := [.data, .data, .data, .data], laidTests := true, laidLooks := .later }
def SnapshotReadsUptoCardSaid : Prop := Claim7.holds Tryz.pinned (.plain (OpenSpec.upto snapshotReadsSpec)) snapshotReadsUptoCard

/-- THE SECOND FORM's CARD OF 'filespacelaw17.SnapshotPlays'. -/
def snapshotPlaysUptoCard : Claim7 := { stood := { row := snapshotPlaysUptoRow, standIns := [], harness := (true, "f4a8688e6c204fcfc408696fb640ab80144ba37bb0c3205ca73bd984a580c6bf"), looks := false }, kinds := [], alts := [], laidByText := true, laidKinds := [.data, .data, .data, .data], laidTests := true, laidLooks := .later }
def SnapshotPlaysUptoCardSaid : Prop := Claim7.holds Tryz.pinned (.plain (OpenSpec.upto snapshotPlaysSpec)) snapshotPlaysUptoCard

/-- THE SECOND FORM's CARD OF 'filespacelaw17.SnapshotExact'. -/
def snapshotExactUptoCard : Claim7 := { stood := { row := snapshotExactUptoRow, standIns := [], harness := (true, "f4a8688e6c204fcfc408696fb640ab80144ba37bb0c3205ca73bd984a580c6bf"), looks := false }, kinds := [], alts := [], laidByText := true, laidKinds := [.data, .data, .data, .data], laidTests := true, laidLooks := .later }
def SnapshotExactUptoCardSaid : Prop := Claim7.holds Tryz.pinned (.plain (OpenSpec.upto snapshotExactSpec)) snapshotExactUptoCard

/-- THE SECOND FORM's CARD OF 'filespacelaw17.SnapshotKeeps'. -/
def snapshotKeepsUptoCard : Claim7 := { stood := { row := snapshotKeepsUptoRow, standIns := [], harness := (true, "f4a8688e6c204fcfc408696fb640ab80144ba37bb0c3205ca73bd984a580c6bf"), looks := false }, kinds := [], alts := [], laidByText := true, laidKinds := [.data, .data, .data, .data], laidTests := true, laidLooks := .later }
def SnapshotKeepsUptoCardSaid : Prop := Claim7.holds Tryz.pinned (.plain (OpenSpec.upto snapshotKeepsSpec)) snapshotKeepsUptoCard

/-- THE SECOND FORM's CARD OF 'filespacelaw17.SnapshotCalls'. -/
def snapshotCallsUptoCard : Claim7 := { stood := { row := snapshotCallsUptoRow, standIns := [], harness := (true, "f4a8688e6c204fcfc408696fb640ab80144ba37bb0c3205ca73bd984a580c6bf"), looks := false }, kinds := [], alts := [], laidByText := true, laidKinds := [.data, .data, .data, .data], laidTests := true, laidLooks := .later }
def SnapshotCallsUptoCardSaid : Prop := Claim7.holds Tryz.pinned (.plain (OpenSpec.upto snapshotCallsSpec)) snapshotCallsUptoCard
end Rows
end Go.Proofs.YtebokaoegomboaaGreatDoor
