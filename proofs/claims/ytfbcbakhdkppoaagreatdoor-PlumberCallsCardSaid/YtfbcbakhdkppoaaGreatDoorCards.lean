/-
  DERIVED. GIVEN WITH THE SEED: THE CARDS: each row of YtfbcbakhdkppoaaGreatDoorRows.lean that lists a variable, with what it lists TIED to the program's text (the seventh form; the later family's looks); each row that meets fmt, with fmt's text TOLD by the authors' own Lean function (tested against real Go, not proved from fmt's source: count such statements apart). THE CARD IS WHAT COUNTS. Prove the row's statement (the work); the ties are given (YtfbcbakhdkppoaaGreatDoorTie.lean); close each card by the builder's one call (the guide's Derived/Test/ToyasCard.lean, 'card_holds'). Laid BY PROGRAM, IN A SANDBOX (cutbox-door.mjs). By AI agents, Wed Nov 11 2026. No macro, syntax, notation, axiom, sorry.
-/
import Derived.Test.YtfbcbakhdkppoaaGreatDoorRows
import GoSem.ClaimSeven
namespace Go.Proofs.YtfbcbakhdkppoaaGreatDoor
namespace Rows

/-- THE TIED CARD OF 'filespacelaw24.PlumberNews'. -/
def plumberNewsCard : Claim7 := { stood := { row := plumberNewsRow, standIns := [], harness := (true, "5d6b753b47a90e801d827cc477cb7447621f9a6b1084e2825daf21fe9d3da63f"), looks := false }, kinds := [], alts := [], laidByText := true, laidKinds := [.data, .data, .data, .data, .pinned], laidTests := true, laidLooks := .later }
def PlumberNewsCardSaid : Prop := Claim7.holds Tryz.pinned (.plain (OpenSpec.ofChange plumberNewsSpec)) plumberNewsCard

/-- THE TIED CARD OF 'filespacelaw24.PlumberRight'. -/
def plumberRightCard : Claim7 := { stood := { row := plumberRightRow, standIns := [], harness := (true, "5d6b753b47a90e801d827cc477cb7447621f9a6b1084e2825daf21fe9d3da63f"), looks := false }, kinds := [], alts := [], laidByText := true, laidKinds := [.data, .data, .data, .data, .pinned], laidTests := true, laidLooks := .later }
def PlumberRightCardSaid : Prop := Claim7.holds Tryz.pinned (.plain (OpenSpec.ofChange plumberRightSpec)) plumberRightCard

/-- THE TIED CARD OF 'filespacelaw24.PlumberOrders'. -/
def plumberOrdersCard : Claim7 := { stood := { row := plumberOrdersRow, standIns := [], harness := (true, "5d6b753b47a90e801d827cc477cb7447621f9a6b1084e2825daf21fe9d3da63f"), looks := false }, kinds := [], alts := [], laidByText := true, laidKinds := [.data, .data, .data, .data, .pinned], laidTests := true, laidLooks := .later }
def PlumberOrdersCardSaid : Prop := Claim7.holds Tryz.pinned (.plain (OpenSpec.ofChange plumberOrdersSpec)) plumberOrdersCard

/-- THE TIED CARD OF 'filespacelaw24.PlumberCalls'. -/
def plumberCallsCard : Claim7 := { stood := { row := plumberCallsRow, standIns := [], harness := (true, "5d6b753b47a90e801d827cc477cb7447621f9a6b1084e2825daf21fe9d3da63f"), looks := false }, kinds := [], alts := [], laidByText := true, laidKinds := [.data, .data, .data, .data, .pinned], laidTests := true, laidLooks := .later }
def PlumberCallsCardSaid : Prop := Claim7.holds Tryz.pinned (.plain (OpenSpec.ofChange plumberCallsSpec)) plumberCallsCard

/-- THE TIED CARD OF 'filespacelaw24.PlumberFiles'. -/
def plumberFilesCard : Claim7 := { stood := { row := plumberFilesRow, standIns := [], harness := (true, "5d6b753b47a90e801d827cc477cb7447621f9a6b1084e2825daf21fe9d3da63f"), looks := false }, kinds := [], alts := [], laidByText := true, laidKinds := [.data, .data, .data, .data, .pinned], laidTests := true, laidLooks := .later }
def PlumberFilesCardSaid : Prop := Claim7.holds Tryz.pinned (.plain (OpenSpec.ofChange plumberFilesSpec)) plumberFilesCard

/-- THE TIED CARD OF 'filespacelaw24.PlumberTells'. -/
def plumberTellsCard : Claim7 := { stood := { row := plumberTellsRow, standIns := [], harness := (true, "5d6b753b47a90e801d827cc477cb7447621f9a6b1084e2825daf21fe9d3da63f"), looks := false }, kinds := [], alts := [], laidByText := true, laidKinds := [.data, .data, .data, .data, .pinned], laidTests := true, laidLooks := .later }
def PlumberTellsCardSaid : Prop := Claim7.holds Tryz.pinned (.plain (OpenSpec.ofChange plumberTellsSpec)) plumberTellsCard

/-- THE SECOND FORM's CARD OF 'filespacelaw24.PlumberNews'. -/
def plumberNewsUptoCard : Claim7 := { stood := { row := plumberNewsUptoRow, standIns := [], harness := (true, "5d6b753b47a90e801d827cc477cb7447621f9a6b1084e2825daf21fe9d3da63f"), looks := false }, kinds := [], alts := [], laidByText := true, laidKinds := [.data, .data, .data, .data, .pinned], laidTests := true, laidLooks := .later }
def PlumberNewsUptoCardSaid : Prop := Claim7.holds Tryz.pinned (.plain (OpenSpec.upto plumberNewsSpec)) plumberNewsUptoCard

/-- THE SECOND FORM's CARD OF 'filespacelaw24.PlumberRight'. -/
def plumberRightUptoCard : Claim7 := { stood := { row := plumberRightUptoRow, standIns := [], harness := (true, "5d6b753b47a90e801d827cc477cb7447621f9a6b1084e2825daf21fe9d3da63f"), looks := false }, kinds := [], alts := [], laidByText := true, laidKinds := [.data, .data, .data, .data, .pinned], laidTests := true, laidLooks := .later }
def PlumberRightUptoCardSaid : Prop := Claim7.holds Tryz.pinned (.plain (OpenSpec.upto plumberRightSpec)) plumberRightUptoCard

/-- THE SECOND FORM's CARD OF 'filespacelaw24.PlumberOrders'. -/
def plumberOrdersUptoCard : Claim7 := { stood := { row := plumberOrdersUptoRow, standIns := [], harness := (true, "5d6b753b47a90e801d827cc477cb7447621f9a6b1084e2825daf21fe9d3da63f"), looks := false }, kinds := [], alts := [], laidByText := true, laidKinds := [.data, .data, .data, .data, .pinned], laidTests := true, laidLooks := .later }
def PlumberOrdersUptoCardSaid : Prop := Claim7.holds Tryz.pinned (.plain (OpenSpec.upto plumberOrdersSpec)) plumberOrdersUptoCard

/-- THE SECOND FORM's CARD OF 'filespacelaw24.PlumberCalls'. -/
def plumberCallsUptoCard : Claim7 := { stood := { row := plumberCallsUptoRow, standIns := [], harness := (true, "5d6b753b47a90e801d827cc477cb7447621f9a6b1084e2825daf21fe9d3da63f"), looks := false }, kinds := [], alts := [], laidByText := true, laidKinds := [.data, .data, .data, .data, .pinned], laidTests := true, laidLooks := .later }
def PlumberCallsUptoCardSaid : Prop := Claim7.holds Tryz.pinned (.plain (OpenSpec.upto plumberCallsSpec)) plumberCallsUptoCard

/-- THE SECOND FORM's CARD OF 'filespacelaw24.PlumberFiles'. -/
def plumberFilesUptoCard : Claim7 := { stood := { row := plumberFilesUptoRow, standIns := [], harness := (true, "5d6b753b47a90e801d827cc477cb7447621f9a6b1084e2825daf21fe9d3da63f"), looks := false }, kinds := [], alts := [], laidByText := true, laidKinds := [.data, .data, .data, .data, .pinned], laidTests := true, laidLooks := .later }
def PlumberFilesUptoCardSaid : Prop := Claim7.holds Tryz.pinned (.plain (OpenSpec.upto plumberFilesSpec)) plumberFilesUptoCard

/-- THE SECOND FORM's CARD OF 'filespacelaw24.PlumberTells'. -/
def plumberTellsUptoCard : Claim7 := { stood := { row := plumberTellsUptoRow, standIns := [], harness := (true, "5d6b753b47a90e801d827cc477cb7447621f9a6b1084e2825daf21fe9d3da63f"), looks := false }, kinds := [], alts := [], laidByText := true, laidKinds := [.data, .data, .data, .data, .pinned], laidTests := true, laidLooks := .later }
def PlumberTellsUptoCardSaid : Prop := Claim7.holds Tryz.pinned (.plain (OpenSpec.upto plumberTellsSpec)) plumberTellsUptoCard
end Rows
end Go.Proofs.YtfbcbakhdkppoaaGreatDoor
