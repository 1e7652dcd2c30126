/-
  The statement 'SnapshotCallsCardSaid': the closed facts of its row. No condition beyond the statement's own.
-/
import Derived.Test.YtebokaoegomboaaGreatDoorRows
import Derived.JoinedOf
import Derived.KernelRfl
namespace Go.Proofs.YtebokaoegomboaaGreatDoor
open Go
set_option maxRecDepth 100000
theorem snapshotCalls_j0 : (Rows.snapshotCallsRow.wf (OpenSpec.ofChange Rows.snapshotCallsSpec)) = true := by kernel_rfl
theorem snapshotCalls_j1 : (laidOutB Tryz.prog) = true := by kernel_rfl
theorem snapshotCalls_j2 : (mapsRowed Tryz.prog) = true := by kernel_rfl
theorem snapshotCalls_j3 : (Tryz.f9.params.all (Tryz.prog.readableRec ·)) = true := by kernel_rfl
theorem snapshotCalls_j4 : (namedTie Tryz.prog Rows.snapshotCallsRow.named Rows.snapshotCallsSpec.vars) = true := by kernel_rfl
theorem snapshotCalls_j5 : ((Rows.snapshotCallsRow.stops == [])) = true := by kernel_rfl
theorem snapshotCalls_j6 : ((Tryz.prog.stops == [])) = true := by kernel_rfl
theorem snapshotCalls_j7 : ((Rows.snapshotCallsRow.knobs == [])) = true := by kernel_rfl
theorem snapshotCalls_j8 : ((Tryz.prog.stopKnobs == [])) = true := by kernel_rfl
theorem snapshotCalls_j9 : ((Rows.snapshotCallsRow.inPlace == Tryz.prog.inPlace 9)) = true := by kernel_rfl
theorem snapshotCalls_j10 : ((Rows.snapshotCallsRow.unfollowed == Tryz.prog.unfollowed 9)) = true := by kernel_rfl
theorem snapshotCalls_j11 : ((Rows.snapshotCallsRow.recurses == Tryz.prog.recurses 9)) = true := by kernel_rfl
theorem snapshotCalls_j12 : ((Rows.snapshotCallsRow.named == Tryz.prog.varsNamed 9)) = true := by kernel_rfl
theorem snapshotCalls_j13 : ((Rows.snapshotCallsRow.maps == (Tryz.f9.params.toList ++ Rows.snapshotCallsSpec.plain.varTypes Tryz.prog).any (Tryz.prog.mapsRec ·))) = true := by kernel_rfl
theorem snapshotCalls_j14 : ((Rows.snapshotCallsRow.ifaces == (Tryz.f9.params.toList ++ Rows.snapshotCallsSpec.plain.varTypes Tryz.prog).any (Tryz.prog.ifacesRec ·))) = true := by kernel_rfl
theorem snapshotCalls_j15 : ((Rows.snapshotCallsRow.mapsOut == Tryz.prog.mapsAmong Tryz.f9.resultTypes.toList)) = true := by kernel_rfl
theorem snapshotCalls_j16 : ((Rows.snapshotCallsRow.loops == (Tryz.f9.params.toList ++ Rows.snapshotCallsSpec.plain.varTypes Tryz.prog).any (Tryz.prog.loopsFrom ·))) = true := by kernel_rfl
theorem snapshotCalls_j17 : ((Rows.snapshotCallsRow.wideKeys == (Tryz.f9.params.toList ++ Rows.snapshotCallsSpec.plain.varTypes Tryz.prog ++ Tryz.f9.resultTypes.toList).any (Tryz.prog.wideKeysFrom ·))) = true := by kernel_rfl
theorem snapshotCalls_j18 : (Rows.snapshotCallsSpec.vars.all (Tryz.prog.varReadable ·)) = true := by kernel_rfl
theorem snapshotCalls_j19 : (Tryz.f9.resultTypes.all (fun t => Tryz.prog.readableRec t && decide (t < Tryz.prog.types.size))) = true := by kernel_rfl
theorem snapshotCalls_j20 : ((Rows.snapshotCallsRow.ifacesOut == Tryz.f9.resultTypes.toList.any (Tryz.prog.ifacesRec ·))) = true := by kernel_rfl
theorem snapshotCalls_j21 : ((Rows.snapshotCallsRow.loopsOut == Tryz.f9.resultTypes.toList.any (Tryz.prog.loopsFrom ·))) = true := by kernel_rfl
theorem snapshotCalls_j22 : ((Rows.snapshotCallsRow.plainKeys == Tryz.prog.plainKeys)) = true := by kernel_rfl
theorem snapshotCalls_j23 : (Rows.snapshotCallsRow.shortTexts.isNone) = true := by kernel_rfl
theorem snapshotCalls_j24 : (Tryz.prog.stopsHeard) = true := by kernel_rfl
theorem snapshotCalls_j25 : (Tryz.prog.mayEnter) = true := by kernel_rfl
theorem snapshotCalls_j26 : ((Rows.snapshotCallsRow.lifted == Tryz.prog.liftsFinal)) = true := by kernel_rfl
theorem snapshotCalls_j27 : ((Tryz.prog.make == some Rows.snapshotCallsRow.make)) = true := by kernel_rfl
theorem snapshotCalls_j28 : ((Rows.snapshotCallsRow.kinds == (if Rows.snapshotCallsRow.domain.isEmpty then [] else Tryz.f9.params.toList.map fun t => match Tryz.prog.underlying t with | some (.int k) => some k | _ => none))) = true := by kernel_rfl
theorem snapshotCalls_j29 : ((Rows.snapshotCallsRow.pinned == Rows.snapshotCallsRow.pinnedBy)) = true := by kernel_rfl
theorem snapshotCalls_j30 : ((Rows.snapshotCallsRow.veiled == (Tryz.f9.params.toList ++ Rows.snapshotCallsSpec.plain.varTypes Tryz.prog ++ Tryz.f9.resultTypes.toList).any (Tryz.prog.veiledRec ·))) = true := by kernel_rfl
theorem snapshotCalls_j31 : (Rows.snapshotCallsRow.veiledFits Tryz.prog Tryz.f9.params.toList (Tryz.f9.params.toList ++ Rows.snapshotCallsSpec.plain.varTypes Tryz.prog ++ Tryz.f9.resultTypes.toList)) = true := by kernel_rfl
theorem and2 {a b : Bool} (h1 : a = true) (h2 : b = true) : (a && b) = true := by rw [h1, h2]; rfl
theorem snapshotCalls_closed : joinedFacts Tryz.prog 9 Tryz.f9 Rows.snapshotCallsSpec Rows.snapshotCallsRow = true := by
  unfold joinedFacts
  exact and2 (and2 (and2 (and2 (and2 (and2 (and2 (and2 (and2 (and2 (and2 (and2 (and2 (and2 (and2 (and2 (and2 (and2 (and2 (and2 (and2 (and2 (and2 (and2 (and2 (and2 (and2 (and2 (and2 (and2 (and2 snapshotCalls_j0 snapshotCalls_j1) snapshotCalls_j2) snapshotCalls_j3) snapshotCalls_j4) snapshotCalls_j5) snapshotCalls_j6) snapshotCalls_j7) snapshotCalls_j8) snapshotCalls_j9) snapshotCalls_j10) snapshotCalls_j11) snapshotCalls_j12) snapshotCalls_j13) snapshotCalls_j14) snapshotCalls_j15) snapshotCalls_j16) snapshotCalls_j17) snapshotCalls_j18) snapshotCalls_j19) snapshotCalls_j20) snapshotCalls_j21) snapshotCalls_j22) snapshotCalls_j23) snapshotCalls_j24) snapshotCalls_j25) snapshotCalls_j26) snapshotCalls_j27) snapshotCalls_j28) snapshotCalls_j29) snapshotCalls_j30) snapshotCalls_j31
end Go.Proofs.YtebokaoegomboaaGreatDoor
