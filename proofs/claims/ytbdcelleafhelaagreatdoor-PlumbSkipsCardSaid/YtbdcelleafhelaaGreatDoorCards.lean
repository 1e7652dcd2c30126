/-
  DERIVED. GIVEN WITH THE SEED: THE CARDS: each row of YtbdcelleafhelaaGreatDoorRows.lean that lists a variable, with what it lists TIED to the program's text (the seventh form; the later family's looks); each row that meets fmt, with fmt's text TOLD by the authors' own Lean function (tested against real Go, not proved from fmt's source: count such statements apart). THE CARD IS WHAT COUNTS. Prove the row's statement (the work); the ties are given (YtbdcelleafhelaaGreatDoorTie.lean); close each card by the builder's one call (the guide's Derived/Test/ToyasCard.lean, 'card_holds'). Laid BY PROGRAM, IN A SANDBOX (cutbox-door.mjs). By AI agents, Wed Nov 11 2026. No macro, syntax, notation, axiom, sorry.
-/
import Derived.Test.YtbdcelleafhelaaGreatDoorRows
import GoSem.ClaimSeven
namespace Go.Proofs.YtbdcelleafhelaaGreatDoor
namespace Rows

/-- THE TIED CARD OF 'filespacelaw23.PlumbMessages'. -/
def plumbMessagesCard : Claim7 := { stood := { row := plumbMessagesRow, standIns := [], harness := (true, "3a97c575df94ad6ac2d5697b8222da9f3f0a272848bbf95fc12163048b19db4a"), looks := false }, kinds := [], alts := [], laidByText := true, laidKinds := [.data, .data, .data, .data, .pinned], laidTests := true, laidLooks := .later }
def PlumbMessagesCardSaid : Prop := Claim7.holds Tryz.pinned (.plain (OpenSpec.ofChange plumbMessagesSpec)) plumbMessagesCard

/-- THE TIED CARD OF 'filespacelaw23.PlumbBack'. -/
def plumbBackCard : Claim7 := { stood := { row := plumbBackRow, standIns := [], harness := (true, "3a97c575df94ad6ac2d5697b8222da9f3f0a272848bbf95fc12163048b19db4a"), looks := false }, kinds := [], alts := [], laidByText := true, laidKinds := [.data, .data, .data, .data, .pinned], laidTests := true, laidLooks := .later }
def PlumbBackCardSaid : Prop := Claim7.holds Tryz.pinned (.plain (OpenSpec.ofChange plumbBackSpec)) plumbBackCard

/-- THE TIED CARD OF 'filespacelaw23.PlumbApplies'. -/
def plumbAppliesCard : Claim7 := { stood := { row := plumbAppliesRow, standIns := [], harness := (true, "3a97c575df94ad6ac2d5697b8222da9f3f0a272848bbf95fc12163048b19db4a"), looks := false }, kinds := [], alts := [], laidByText := true, laidKinds := [.data, .data, .data, .data, .pinned], laidTests := true, laidLooks := .later }
def PlumbAppliesCardSaid : Prop := Claim7.holds Tryz.pinned (.plain (OpenSpec.ofChange plumbAppliesSpec)) plumbAppliesCard

/-- THE TIED CARD OF 'filespacelaw23.PlumbSkips'. -/
def plumbSkipsCard : Claim7 := { stood := { row := plumbSkipsRow, standIns := [], harness := (true, "3a97c575df94ad6ac2d5697b8222da9f3f0a272848bbf95fc12163048b19db4a"), looks := false }, kinds := [], alts := [], laidByText := true, laidKinds := [.data, .data, .data, .data, .pinned], laidTests := true, laidLooks := .later }
def PlumbSkipsCardSaid : Prop := Claim7.holds Tryz.pinned (.plain (OpenSpec.ofChange plumbSkipsSpec)) plumbSkipsCard

/-- THE TIED CARD OF 'filespacelaw23.PlumbRules'. -/
def plumbRulesCard : Claim7 := { stood := { row := plumbRulesRow, standIns := [], harness := (true, "3a97c575df94ad6ac2d5697b8222da9f3f0a272848bbf95fc12163048b19db4a"), looks := false }, kinds := [], alts := [], laidByText := true, laidKinds := [.data, .data, .data, .data, .pinned], laidTests := true, laidLooks := .later }
def PlumbRulesCardSaid : Prop := Claim7.holds Tryz.pinned (.plain (OpenSpec.ofChange plumbRulesSpec)) plumbRulesCard

/-- THE TIED CARD OF 'filespacelaw23.PlumbAgain'. -/
def plumbAgainCard : Claim7 := { stood := { row := plumbAgainRow, standIns := [], harness := (true, "3a97c575df94ad6ac2d5697b8222da9f3f0a272848bbf95fc12163048b19db4a"), looks := false }, kinds := [], alts := [], laidByText := true, laidKinds := [.data, .data, .data, .data, .pinned], laidTests := true, laidLooks := .later }
def PlumbAgainCardSaid : Prop := Claim7.holds Tryz.pinned (.plain (OpenSpec.ofChange plumbAgainSpec)) plumbAgainCard

/-- THE SECOND FORM's CARD OF 'filespacelaw23.PlumbMessages'. -/
def plumbMessagesUptoCard : Claim7 := { stood := { row := plumbMessagesUptoRow, standIns := [], harness := (true, "3a97c575df94ad6ac2d5697b8222da9f3f0a272848bbf95fc12163048b19db4a"), looks := false }, kinds := [], alts := [], laidByText := true, laidKinds := [.data, .data, .data, .data, .pinned], laidTests := true, laidLooks := .later }
def PlumbMessagesUptoCardSaid : Prop := Claim7.holds Tryz.pinned (.plain (OpenSpec.upto plumbMessagesSpec)) plumbMessagesUptoCard

/-- THE SECOND FORM's CARD OF 'filespacelaw23.PlumbBack'. -/
def plumbBackUptoCard : Claim7 := { stood := { row := plumbBackUptoRow, standIns := [], harness := (true, "3a97c575df94ad6ac2d5697b8222da9f3f0a272848bbf95fc12163048b19db4a"), looks := false }, kinds := [], alts := [], laidByText := true, laidKinds := [.data, .data, .data, .data, .pinned], laidTests := true, laidLooks := .later }
def PlumbBackUptoCardSaid : Prop := Claim7.holds Tryz.pinned (.plain (OpenSpec.upto plumbBackSpec)) plumbBackUptoCard

/-- THE SECOND FORM's CARD OF 'filespacelaw23.PlumbApplies'. -/
def plumbAppliesUptoCard : Claim7 := { stood := { row := plumbAppliesUptoRow, standIns := [], harness := (true, "3a97c575df94ad6ac2d5697b8222da9f3f0a272848bbf95fc12163048b19db4a"), looks := false }, kinds := [], alts := [], laidByText := true, laidKinds := [.data, .data, .data, .data, .pinned], laidTests := true, laidLooks := .later }
def PlumbAppliesUptoCardSaid : Prop := Claim7.holds Tryz.pinned (.plain (OpenSpec.upto plumbAppliesSpec)) plumbAppliesUptoCard

/-- THE SECOND FORM's CARD OF 'filespacelaw23.PlumbSkips'. -/
def plumbSkipsUptoCard : Claim7 := { stood := { row := plumbSkipsUptoRow, standIns := [], harness := (true, "3a97c575df94ad6ac2d5697b8222da9f3f0a272848bbf95fc12163048b19db4a"), looks := false }, kinds := [], alts := [], laidByText := true, laidKinds := [.data, .data, .data, .data, .pinned], laidTests := true, laidLooks := .later }
def PlumbSkipsUptoCardSaid : Prop := Claim7.holds Tryz.pinned (.plain (OpenSpec.upto plumbSkipsSpec)) plumbSkipsUptoCard

/-- THE SECOND FORM's CARD OF 'filespacelaw23.PlumbRules'. -/
def plumbRulesUptoCard : Claim7 := { stood := { row := plumbRulesUptoRow, standIns := [], harness := (true, "3a97c575df94ad6ac2d5697b8222da9f3f0a272848bbf95fc12163048b19db4a"), looks := false }, kinds := [], alts := [], laidByText := true, laidKinds := [.data, .data, .data, .data, .pinned], laidTests := true, laidLooks := .later }
def PlumbRulesUptoCardSaid : Prop := Claim7.holds Tryz.pinned (.plain (OpenSpec.upto plumbRulesSpec)) plumbRulesUptoCard

/-- THE SECOND FORM's CARD OF 'filespacelaw23.PlumbAgain'. -/
def plumbAgainUptoCard : Claim7 := { stood := { row := plumbAgainUptoRow, standIns := [], harness := (true, "3a97c575df94ad6ac2d5697b8222da9f3f0a272848bbf95fc12163048b19db4a"), looks := false }, kinds := [], alts := [], laidByText := true, laidKinds := [.data, .data, .data, .data, .pinned], laidTests := true, laidLooks := .later }
def PlumbAgainUptoCardSaid : Prop := Claim7.holds Tryz.pinned (.plain (OpenSpec.upto plumbAgainSpec)) plumbAgainUptoCard
end Rows
end Go.Proofs.YtbdcelleafhelaaGreatDoor
