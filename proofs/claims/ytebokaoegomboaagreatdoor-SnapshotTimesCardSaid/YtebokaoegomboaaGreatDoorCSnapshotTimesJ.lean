/-
  The statement 'SnapshotTimesCardSaid': the closed facts of its row. No condition beyond the statement's own.
-/
import Derived.Test.YtebokaoegomboaaGreatDoorRows
import Derived.JoinedOf
import Derived.KernelRfl
namespace Go.Proofs.YtebokaoegomboaaGreatDoor
open Go
set_option maxRecDepth 100000
theorem snapshotTimes_j0 : (Rows.snapshotTimesRow.wf (OpenSpec.ofChange Rows.snapshotTimesSpec)) = true := by kernel_rfl
theorem snapshotTimes_j1 : (laidOutB Tryz.prog) = true := by kernel_rfl
theorem snapshotTimes_j2 : (mapsRowed Tryz.prog) = true := by kernel_rfl
theorem snapshotTimes_j3 : (Tryz.f3.params.all (Tryz.prog.readableRec ·)) = true := by kernel_rfl
theorem snapshotTimes_j4 : (namedTie Tryz.prog Rows.snapshotTimesRow.named Rows.snapshotTimesSpec.vars) = true := by kernel_rfl
theorem snapshotTimes_j5 : ((Rows.snapshotTimesRow.stops == [])) = true := by kernel_rfl
theorem snapshotTimes_j6 : ((Tryz.prog.stops == [])) = true := by kernel_rfl
theorem snapshotTimes_j7 : ((Rows.snapshotTimesRow.knobs == [])) = true := by kernel_rfl
theorem snapshotTimes_j8 : ((Tryz.prog.stopKnobs == [])) = true := by kernel_rfl
theorem snapshotTimes_j9 : ((Rows.snapshotTimesRow.inPlace == Tryz.prog.inPlace 3)) = true := by kernel_rfl
theorem snapshotTimes_j10 : ((Rows.snapshotTimesRow.unfollowed == Tryz.prog.unfollowed 3)) = true := by kernel_rfl
theorem snapshotTimes_j11 : ((Rows.snapshotTimesRow.recurses == Tryz.prog.recurses 3)) = true := by kernel_rfl
theorem snapshotTimes_j12 : ((Rows.snapshotTimesRow.named == Tryz.prog.varsNamed 3)) = true := by kernel_rfl
theorem snapshotTimes_j13 : ((Rows.snapshotTimesRow.maps == (Tryz.f3.params.toList ++ Rows.snapshotTimesSpec.plain.varTypes Tryz.prog).any (Tryz.prog.mapsRec ·))) = true := by kernel_rfl
theorem snapshotTimes_j14 : ((Rows.snapshotTimesRow.ifaces == (Tryz.f3.params.toList ++ Rows.snapshotTimesSpec.plain.varTypes Tryz.prog).any (Tryz.prog.ifacesRec ·))) = true := by kernel_rfl
theorem snapshotTimes_j15 : ((Rows.snapshotTimesRow.mapsOut == Tryz.prog.mapsAmong Tryz.f3.resultTypes.toList)) = true := by kernel_rfl
theorem snapshotTimes_j16 : ((Rows.snapshotTimesRow.loops == (Tryz.f3.params.toList ++ Rows.snapshotTimesSpec.plain.varTypes Tryz.prog).any (Tryz.prog.loopsFrom ·))) = true := by kernel_rfl
theorem snapshotTimes_j17 : ((Rows.snapshotTimesRow.wideKeys == (Tryz.f3.params.toList ++ Rows.snapshotTimesSpec.plain.varTypes Tryz.prog ++ Tryz.f3.resultTypes.toList).any (Tryz.prog.wideKeysFrom ·))) = true := by kernel_rfl
theorem snapshotTimes_j18 : (Rows.snapshotTimesSpec.vars.all (Tryz.prog.varReadable ·)) = true := by kernel_rfl
theorem snapshotTimes_j19 : (Tryz.f3.resultTypes.all (fun t => Tryz.prog.readableRec t && decide (t < Tryz.prog.types.size))) = true := by kernel_rfl
theorem snapshotTimes_j20 : ((Rows.snapshotTimesRow.ifacesOut == Tryz.f3.resultTypes.toList.any (Tryz.prog.ifacesRec ·))) = true := by kernel_rfl
theorem snapshotTimes_j21 : ((Rows.snapshotTimesRow.loopsOut == Tryz.f3.resultTypes.toList.any (Tryz.prog.loopsFrom ·))) = true := by kernel_rfl
theorem snapshotTimes_j22 : ((Rows.snapshotTimesRow.plainKeys == Tryz.prog.plainKeys)) = true := by kernel_rfl
theorem snapshotTimes_j23 : (Rows.snapshotTimesRow.shortTexts.isNone) = true := by kernel_rfl
theorem snapshotTimes_j24 : (Tryz.prog.stopsHeard) = true := by kernel_rfl
theorem snapshotTimes_j25 : (Tryz.prog.mayEnter) = true := by kernel_rfl
theorem snapshotTimes_j26 : ((Rows.snapshotTimesRow.lifted == Tryz.prog.liftsFinal)) = true := by kernel_rfl
theorem snapshotTimes_j27 : ((Tryz.prog.make == some Rows.snapshotTimesRow.make)) = true := by kernel_rfl
theorem snapshotTimes_j28 : ((Rows.snapshotTimesRow.kinds == (if Rows.snapshotTimesRow.domain.isEmpty then [] else Tryz.f3.params.toList.map fun t => match Tryz.prog.underlying t with | some (.int k) => some k | _ => none))) = true := by kernel_rfl
theorem snapshotTimes_j29 : ((Rows.snapshotTimesRow.pinned == Rows.snapshotTimesRow.pinnedBy)) = true := by kernel_rfl
theorem snapshotTimes_j30 : ((Rows.snapshotTimesRow.veiled == (Tryz.f3.params.toList ++ Rows.snapshotTimesSpec.plain.varTypes Tryz.prog ++ Tryz.f3.resultTypes.toList).any (Tryz.prog.veiledRec ·))) = true := by kernel_rfl
theorem snapshotTimes_j31 : (Rows.snapshotTimesRow.veiledFits Tryz.prog Tryz.f3.params.toList (Tryz.f3.params.toList ++ Rows.snapshotTimesSpec.plain.varTypes Tryz.prog ++ Tryz.f3.resultTypes.toList)) = true := by kernel_rfl
theorem and2 {a b : Bool} (h1 : a = true) (h2 : b = true) : (a && b) = true := by rw [h1, h2]; rfl
theorem snapshotTimes_closed : joinedFacts Tryz.prog 3 Tryz.f3 Rows.snapshotTimesSpec Rows.snapshotTimesRow = true := by
  unfold joinedFacts
  exact and2 (and2 (and2 (and2 (and2 (and2 (and2 (and2 (and2 (and2 (and2 (and2 (and2 (and2 (and2 (and2 (and2 (and2 (and2 (and2 (and2 (and2 (and2 (and2 (and2 (and2 (and2 (and2 (and2 (and2 (and2 snapshotTimes_j0 snapshotTimes_j1) snapshotTimes_j2) snapshotTimes_j3) snapshotTimes_j4) snapshotTimes_j5) snapshotTimes_j6) snapshotTimes_j7) snapshotTimes_j8) snapshotTimes_j9) snapshotTimes_j10) snapshotTimes_j11) snapshotTimes_j12) snapshotTimes_j13) snapshotTimes_j14) snapshotTimes_j15) snapshotTimes_j16) snapshotTimes_j17) snapshotTimes_j18) snapshotTimes_j19) snapshotTimes_j20) snapshotTimes_j21) snapshotTimes_j22) snapshotTimes_j23) snapshotTimes_j24) snapshotTimes_j25) snapshotTimes_j26) snapshotTimes_j27) snapshotTimes_j28) snapshotTimes_j29) snapshotTimes_j30) snapshotTimes_j31
end Go.Proofs.YtebokaoegomboaaGreatDoor
