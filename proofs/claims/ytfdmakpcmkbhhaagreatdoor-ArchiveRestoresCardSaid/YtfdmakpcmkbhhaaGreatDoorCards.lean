/-
  DERIVED. GIVEN WITH THE SEED: THE CARDS: each row of YtfdmakpcmkbhhaaGreatDoorRows.lean that lists a variable, with what it lists TIED to the program's text (the seventh form; the later family's looks); each row that meets fmt, with fmt's text TOLD by the authors' own Lean function (tested against real Go, not proved from fmt's source: count such statements apart). THE CARD IS WHAT COUNTS. Prove the row's statement (the work); the ties are given (YtfdmakpcmkbhhaaGreatDoorTie.lean); close each card by the builder's one call (the guide's Derived/Test/ToyasCard.lean, 'card_holds'). Laid BY PROGRAM, IN A SANDBOX (cutbox-door.mjs). By AI agents, Wed Nov 11 2026. No macro, syntax, notation, axiom, sorry.
-/
import Derived.Test.YtfdmakpcmkbhhaaGreatDoorRows
import GoSem.ClaimSeven
namespace Go.Proofs.YtfdmakpcmkbhhaaGreatDoor
namespace Rows

/-- THE TIED CARD OF 'filespacelaw16.ArchivePuts'. -/
def archivePutsCard : Claim7 := { stood := { row := archivePutsRow, standIns := [], harness := (true, "1c8d540d2b5554273c73613ef1a6eb69999031db6e62c6fad4ffde1840f6c766"), looks := false }, kinds := [], alts := [], laidByText := true, laidKinds := [.data], laidTests := true, laidLooks := .later }
def ArchivePutsCardSaid : Prop := Claim7.holds Tryz.pinned (.plain (OpenSpec.ofChange archivePutsSpec)) archivePutsCard

/-- THE TIED CARD OF 'filespacelaw16.ArchiveTrees'. -/
def archiveTreesCard : Claim7 := { stood := { row := archiveTreesRow, standIns := [], harness := (true, "1c8d540d2b5554273c73613ef1a6eb69999031db6e62c6fad4ffde1840f6c766"), looks := false }, kinds := [], alts := [], laidByText := true, laidKinds := [.data], laidTests := true, laidLooks := .later }
def ArchiveTreesCardSaid : Prop := Claim7.holds Tryz.pinned (.plain (OpenSpec.ofChange archiveTreesSpec)) archiveTreesCard

/-- THE TIED CARD OF 'filespacelaw16.ArchiveGets'. -/
def archiveGetsCard : Claim7 := { stood := { row := archiveGetsRow, standIns := [], harness := (true, "1c8d540d2b5554273c73613ef1a6eb69999031db6e62c6fad4ffde1840f6c766"), looks := false }, kinds := [], alts := [], laidByText := true, laidKinds := [.data], laidTests := true, laidLooks := .later }
def ArchiveGetsCardSaid : Prop := Claim7.holds Tryz.pinned (.plain (OpenSpec.ofChange archiveGetsSpec)) archiveGetsCard

/-- THE TIED CARD OF 'filespacelaw16.ArchiveChanges'. -/
def archiveChangesCard : Claim7 := { stood := { row := archiveChangesRow, standIns := [], harness := (true, "1c8d540d2b5554273c73613ef1a6eb69999031db6e62c6fad4ffde1840f6c766"), looks := false }, kinds := [], alts := [], laidByText := true, laidKinds := [.data], laidTests := true, laidLooks := .later }
def ArchiveChangesCardSaid : Prop := Claim7.holds Tryz.pinned (.plain (OpenSpec.ofChange archiveChangesSpec)) archiveChangesCard

/-- THE TIED CARD OF 'filespacelaw16.ArchiveRestores'. -/
def archiveRestoresCard : Claim7 := { stood := { row := archiveRestoresRow, standIns := [], harness := (true, "1c8d540d2b5554273c73613ef1a6eb69999031db6e62c6fad4ffde1840f6c766"), looks := false }, kinds := [], alts := [], laidByText := true, laidKinds := [.data], laidTests := true, laidLooks := .later }
def ArchiveRestoresCardSaid : Prop := Claim7.holds Tryz.pinned (.plain (OpenSpec.ofChange archiveRestoresSpec)) archiveRestoresCard

/-- THE TIED CARD OF 'filespacelaw16.ArchiveReads'. -/
def archiveReadsCard : Claim7 := { stood := { row := archiveReadsRow, standIns := [], harness := (true, "1c8d540d2b5554273c73613ef1a6eb69999031db6e62c6fad4ffde1840f6c766"), looks := false }, kinds := [], alts := [], laidByText := true, laidKinds := [.data], laidTests := true, laidLooks := .later }
def ArchiveReadsCardSaid : Prop := Claim7.holds Tryz.pinned (.plain (OpenSpec.ofChange archiveReadsSpec)) archiveReadsCard

/-- THE TIED CARD OF 'filespacelaw16.ArchiveReturns'. -/
def archiveReturnsCard : Claim7 := { stood := { row := archiveReturnsRow, standIns := [], harness := (true, "1c8d540d2b5554273c73613ef1a6eb69999031db6e62c6fad4ffde1840f6c766"), looks := false }, kinds := [], alts := [], laidByText := true, laidKinds := [.data], laidTests := true, laidLooks := .later }
def ArchiveReturnsCardSaid : Prop := Claim7.holds Tryz.pinned (.plain (OpenSpec.ofChange archiveReturnsSpec)) archiveReturnsCard

/-- THE SECOND FORM's CARD OF 'filespacelaw16.ArchivePuts'. -/
def archivePutsUptoCard : Claim7 := { stood := { row := archivePutsUptoRow, standIns := [], harness := (true, "1c8d540d2b5554273c73613ef1a6eb69999031db6e62c6fad4ffde1840f6c766"), looks := false }, kinds := [], alts := [], laidByText := true, laidKinds := [.data], laidTests := true, laidLooks := .later }
def ArchivePutsUptoCardSaid : Prop := Claim7.holds Tryz.pinned (.plain (OpenSpec.upto archivePutsSpec)) archivePutsUptoCard

/-- THE SECOND FORM's CARD OF 'filespacelaw16.ArchiveTrees'. -/
def archiveTreesUptoCard : Claim7 := { stood := { row := archiveTreesUptoRow, standIns := [], harness := (true, "1c8d540d2b5554273c73613ef1a6eb69999031db6e62c6fad4ffde1840f6c766"), looks := false }, kinds := [], alts := [], laidByText := true, laidKinds := [.data], laidTests := true, laidLooks := .later }
def ArchiveTreesUptoCardSaid : Prop := Claim7.holds Tryz.pinned (.plain (OpenSpec.upto archiveTreesSpec)) archiveTreesUptoCard

/-- THE SECOND FORM's CARD OF 'filespacelaw16.ArchiveGets'. -/
def archiveGetsUptoCard : Claim7 := { stood := { row := archiveGetsUptoRow, standIns := [], harness := (true, "1c8d540d2b5554273c73613ef1a6eb69999031db6e62c6fad4ffde1840f6c766"), looks := false }, kinds := [], alts := [], laidByText := true, laidKinds := [.data], laidTests := true, laidLooks := .later }
def ArchiveGetsUptoCardSaid : Prop := Claim7.holds Tryz.pinned (.plain (OpenSpec.upto archiveGetsSpec)) archiveGetsUptoCard

/-- THE SECOND FORM's CARD OF 'filespacelaw16.ArchiveChanges'. -/
def archiveChangesUptoCard : Claim7 := { stood := { row := archiveChangesUptoRow, standIns := [], harness := (true, "1c8d540d2b5554273c73613ef1a6eb69999031db6e62c6fad4ffde1840f6c766"), looks := false }, kinds := [], alts := [], laidByText := true, laidKinds := [.data], laidTests := true, laidLooks := .later }
def ArchiveChangesUptoCardSaid : Prop := Claim7.holds Tryz.pinned (.plain (OpenSpec.upto archiveChangesSpec)) archiveChangesUptoCard

/-- THE SECOND FORM's CARD OF 'filespacelaw16.ArchiveRestores'. -/
def archiveRestoresUptoCard : Claim7 := { stood := { row := archiveRestoresUptoRow, standIns := [], harness := (true, "1c8d540d2b5554273c73613ef1a6eb69999031db6e62c6fad4ffde1840f6c766"), looks := false }, kinds := [], alts := [], laidByText := true, laidKinds := [.data], laidTests := true, laidLooks := .later }
def ArchiveRestoresUptoCardSaid : Prop := Claim7.holds Tryz.pinned (.plain (OpenSpec.upto archiveRestoresSpec)) archiveRestoresUptoCard

/-- THE SECOND FORM's CARD OF 'filespacelaw16.ArchiveReads'. -/
def archiveReadsUptoCard : Claim7 := { stood := { row := archiveReadsUptoRow, standIns := [], harness := (true, "1c8d540d2b5554273c73613ef1a6eb69999031db6e62c6fad4ffde1840f6c766"), looks := false }, kinds := [], alts := [], laidByText := true, laidKinds := [.data], laidTests := true, laidLooks := .later }
def ArchiveReadsUptoCardSaid : Prop := Claim7.holds Tryz.pinned (.plain (OpenSpec.upto archiveReadsSpec)) archiveReadsUptoCard

/-- THE SECOND FORM's CARD OF 'filespacelaw16.ArchiveReturns'. -/
def archiveReturnsUptoCard : Claim7 := { stood := { row := archiveReturnsUptoRow, standIns := [], harness := (true, "1c8d540d2b5554273c73613ef1a6eb69999031db6e62c6fad4ffde1840f6c766"), looks := false }, kinds := [], alts := [], laidByText := true, laidKinds := [.data], laidTests := true, laidLooks := .later }
def ArchiveReturnsUptoCardSaid : Prop := Claim7.holds Tryz.pinned (.plain (OpenSpec.upto archiveReturnsSpec)) archiveReturnsUptoCard
end Rows
end Go.Proofs.YtfdmakpcmkbhhaaGreatDoor
