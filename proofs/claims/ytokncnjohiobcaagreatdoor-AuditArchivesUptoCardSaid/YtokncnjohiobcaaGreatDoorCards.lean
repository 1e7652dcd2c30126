/-
  DERIVED. GIVEN WITH THE SEED: THE CARDS: each row of YtokncnjohiobcaaGreatDoorRows.lean that lists a variable, with what it lists TIED to the program's text (the seventh form; the later family's looks); each row that meets fmt, with fmt's text TOLD by the authors' own Lean function (tested against real Go, not proved from fmt's source: count such statements apart). THE CARD IS WHAT COUNTS. Prove the row's statement (the work); the ties are given (YtokncnjohiobcaaGreatDoorTie.lean); close each card by the builder's one call (the guide's Derived/Test/ToyasCard.lean, 'card_holds'). Laid BY PROGRAM, IN A SANDBOX (cutbox-door.mjs). By AI agents, Wed Nov 11 2026. No macro, syntax, notation, axiom, sorry.
-/
import Derived.Test.YtokncnjohiobcaaGreatDoorRows
import GoSem.ClaimSeven
namespace Go.Proofs.YtokncnjohiobcaaGreatDoor
namespace Rows

/-- THE TIED CARD OF 'filespacelaw54.AuditArchives'. -/
def auditArchivesCard : Claim7 := { stood := { row := auditArchivesRow, standIns := [], harness := (true, "7e6eaadb7e4f2646f2b3a5db398039cef5ceb8a18d606bab379f5e5b4ede2d9c"), looks := false }, kinds := [], alts := [], laidByText := true, laidKinds := [.data, .data, .data, .data, .data, .pinned], laidTests := true, laidLooks := .later }
def AuditArchivesCardSaid : Prop := Claim7.holds Tryz.pinned (.plain (OpenSpec.ofChange auditArchivesSpec)) auditArchivesCard

/-- THE SECOND FORM's CARD OF 'filespacelaw54.AuditArchives'. -/
def auditArchivesUptoCard : Claim7 := { stood := { row := auditArchivesUptoRow, standIns := [], harness := (true, "7e6eaadb7e4f2646f2b3a5db398039cef5ceb8a18d606bab379f5e5b4ede2d9c"), looks := false }, kinds := [], alts := [], laidByText := true, laidKinds := [.data, .data, .data, .data, .data, .pinned], laidTests := true, laidLooks := .later }
def AuditArchivesUptoCardSaid : Prop := Claim7.holds Tryz.pinned (.plain (OpenSpec.upto auditArchivesSpec)) auditArchivesUptoCard
end Rows
end Go.Proofs.YtokncnjohiobcaaGreatDoor
