/-
  The statement 'PlumbMessagesCardSaid': the closed facts of its row. No condition beyond the statement's own.
-/
import Derived.Test.YtbdcelleafhelaaGreatDoorRows
import Derived.JoinedOf
import Derived.KernelRfl
namespace Go.Proofs.YtbdcelleafhelaaGreatDoor
open Go
set_option maxRecDepth 100000
theorem plumbMessages_j0 : (Rows.plumbMessagesRow.wf (OpenSpec.ofChange Rows.plumbMessagesSpec)) = true := by kernel_rfl
theorem plumbMessages_j1 : (laidOutB Tryz.prog) = true := by kernel_rfl
theorem plumbMessages_j2 : (mapsRowed Tryz.prog) = true := by kernel_rfl
theorem plumbMessages_j3 : (Tryz.f3.params.all (Tryz.prog.readableRec ·)) = true := by kernel_rfl
theorem plumbMessages_j4 : (namedTie Tryz.prog Rows.plumbMessagesRow.named Rows.plumbMessagesSpec.vars) = true := by kernel_rfl
theorem plumbMessages_j5 : ((Rows.plumbMessagesRow.stops == [])) = true := by kernel_rfl
theorem plumbMessages_j6 : ((Tryz.prog.stops == [])) = true := by kernel_rfl
theorem plumbMessages_j7 : ((Rows.plumbMessagesRow.knobs == [])) = true := by kernel_rfl
theorem plumbMessages_j8 : ((Tryz.prog.stopKnobs == [])) = true := by kernel_rfl
theorem plumbMessages_j9 : ((Rows.plumbMessagesRow.inPlace == Tryz.prog.inPlace 3)) = true := by kernel_rfl
theorem plumbMessages_j10 : ((Rows.plumbMessagesRow.unfollowed == Tryz.prog.unfollowed 3)) = true := by kernel_rfl
theorem plumbMessages_j11 : ((Rows.plumbMessagesRow.recurses == Tryz.prog.recurses 3)) = true := by kernel_rfl
theorem plumbMessages_j12 : ((Rows.plumbMessagesRow.named == Tryz.prog.varsNamed 3)) = true := by kernel_rfl
theorem plumbMessages_j13 : ((Rows.plumbMessagesRow.maps == (Tryz.f3.params.toList ++ Rows.plumbMessagesSpec.plain.varTypes Tryz.prog).any (Tryz.prog.mapsRec ·))) = true := by kernel_rfl
theorem plumbMessages_j14 : ((Rows.plumbMessagesRow.ifaces == (Tryz.f3.params.toList ++ Rows.plumbMessagesSpec.plain.varTypes Tryz.prog).any (Tryz.prog.ifacesRec ·))) = true := by kernel_rfl
theorem plumbMessages_j15 : ((Rows.plumbMessagesRow.mapsOut == Tryz.prog.mapsAmong Tryz.f3.resultTypes.toList)) = true := by kernel_rfl
theorem plumbMessages_j16 : ((Rows.plumbMessagesRow.loops == (Tryz.f3.params.toList ++ Rows.plumbMessagesSpec.plain.varTypes Tryz.prog).any (Tryz.prog.loopsFrom ·))) = true := by kernel_rfl
theorem plumbMessages_j17 : ((Rows.plumbMessagesRow.wideKeys == (Tryz.f3.params.toList ++ Rows.plumbMessagesSpec.plain.varTypes Tryz.prog ++ Tryz.f3.resultTypes.toList).any (Tryz.prog.wideKeysFrom ·))) = true := by kernel_rfl
theorem plumbMessages_j18 : (Rows.plumbMessagesSpec.vars.all (Tryz.prog.varReadable ·)) = true := by kernel_rfl
theorem plumbMessages_j19 : (Tryz.f3.resultTypes.all (fun t => Tryz.prog.readableRec t && decide (t < Tryz.prog.types.size))) = true := by kernel_rfl
theorem plumbMessages_j20 : ((Rows.plumbMessagesRow.ifacesOut == Tryz.f3.resultTypes.toList.any (Tryz.prog.ifacesRec ·))) = true := by kernel_rfl
theorem plumbMessages_j21 : ((Rows.plumbMessagesRow.loopsOut == Tryz.f3.resultTypes.toList.any (Tryz.prog.loopsFrom ·))) = true := by kernel_rfl
theorem plumbMessages_j22 : ((Rows.plumbMessagesRow.plainKeys == Tryz.prog.plainKeys)) = true := by kernel_rfl
theorem plumbMessages_j23 : (Rows.plumbMessagesRow.shortTexts.isNone) = true := by kernel_rfl
theorem plumbMessages_j24 : (Tryz.prog.stopsHeard) = true := by kernel_rfl
theorem plumbMessages_j25 : (Tryz.prog.mayEnter) = true := by kernel_rfl
theorem plumbMessages_j26 : ((Rows.plumbMessagesRow.lifted == Tryz.prog.liftsFinal)) = true := by kernel_rfl
theorem plumbMessages_j27 : ((Tryz.prog.make == some Rows.plumbMessagesRow.make)) = true := by kernel_rfl
theorem plumbMessages_j28 : ((Rows.plumbMessagesRow.kinds == (if Rows.plumbMessagesRow.domain.isEmpty then [] else Tryz.f3.params.toList.map fun t => match Tryz.prog.underlying t with | some (.int k) => some k | _ => none))) = true := by kernel_rfl
theorem plumbMessages_j29 : ((Rows.plumbMessagesRow.pinned == Rows.plumbMessagesRow.pinnedBy)) = true := by kernel_rfl
theorem plumbMessages_j30 : ((Rows.plumbMessagesRow.veiled == (Tryz.f3.params.toList ++ Rows.plumbMessagesSpec.plain.varTypes Tryz.prog ++ Tryz.f3.resultTypes.toList).any (Tryz.prog.veiledRec ·))) = true := by kernel_rfl
theorem plumbMessages_j31 : (Rows.plumbMessagesRow.veiledFits Tryz.prog Tryz.f3.params.toList (Tryz.f3.params.toList ++ Rows.plumbMessagesSpec.plain.varTypes Tryz.prog ++ Tryz.f3.resultTypes.toList)) = true := by kernel_rfl
theorem and2 {a b : Bool} (h1 : a = true) (h2 : b = true) : (a && b) = true := by rw [h1, h2]; rfl
theorem plumbMessages_closed : joinedFacts Tryz.prog 3 Tryz.f3 Rows.plumbMessagesSpec Rows.plumbMessagesRow = true := by
  unfold joinedFacts
  exact and2 (and2 (and2 (and2 (and2 (and2 (and2 (and2 (and2 (and2 (and2 (and2 (and2 (and2 (and2 (and2 (and2 (and2 (and2 (and2 (and2 (and2 (and2 (and2 (and2 (and2 (and2 (and2 (and2 (and2 (and2 plumbMessages_j0 plumbMessages_j1) plumbMessages_j2) plumbMessages_j3) plumbMessages_j4) plumbMessages_j5) plumbMessages_j6) plumbMessages_j7) plumbMessages_j8) plumbMessages_j9) plumbMessages_j10) plumbMessages_j11) plumbMessages_j12) plumbMessages_j13) plumbMessages_j14) plumbMessages_j15) plumbMessages_j16) plumbMessages_j17) plumbMessages_j18) plumbMessages_j19) plumbMessages_j20) plumbMessages_j21) plumbMessages_j22) plumbMessages_j23) plumbMessages_j24) plumbMessages_j25) plumbMessages_j26) plumbMessages_j27) plumbMessages_j28) plumbMessages_j29) plumbMessages_j30) plumbMessages_j31
end Go.Proofs.YtbdcelleafhelaaGreatDoor
