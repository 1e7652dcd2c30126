/-
  The statement 'SnapshotReadsCardSaid': the closed facts of its row. No condition beyond the statement's own.
-/
import Derived.Test.YtebokaoegomboaaGreatDoorRows
import Derived.JoinedOf
import Derived.KernelRfl
namespace Go.Proofs.YtebokaoegomboaaGreatDoor
open Go
set_option maxRecDepth 100000
theorem snapshotReads_j0 : (Rows.snapshotReadsRow.wf (OpenSpec.ofChange Rows.snapshotReadsSpec)) = true := by kernel_rfl
theorem snapshotReads_j1 : (laidOutB Tryz.prog) = true := by kernel_rfl
theorem snapshotReads_j2 : (mapsRowed Tryz.prog) = true := by kernel_rfl
theorem snapshotReads_j3 : (Tryz.f5.params.all (Tryz.prog.readableRec ·)) = true := by kernel_rfl
theorem snapshotReads_j4 : (namedTie Tryz.prog Rows.snapshotReadsRow.named Rows.snapshotReadsSpec.vars) = true := by kernel_rfl
theorem snapshotReads_j5 : ((Rows.snapshotReadsRow.stops == [])) = true := by kernel_rfl
theorem snapshotReads_j6 : ((Tryz.prog.stops == [])) = true := by kernel_rfl
theorem snapshotReads_j7 : ((Rows.snapshotReadsRow.knobs == [])) = true := by kernel_rfl
theorem snapshotReads_j8 : ((Tryz.prog.stopKnobs == [])) = true := by kernel_rfl
theorem snapshotReads_j9 : ((Rows.snapshotReadsRow.inPlace == Tryz.prog.inPlace 5)) = true := by kernel_rfl
theorem snapshotReads_j10 : ((Rows.snapshotReadsRow.unfollowed == Tryz.prog.unfollowed 5)) = true := by kernel_rfl
theorem snapshotReads_j11 : ((Rows.snapshotReadsRow.recurses == Tryz.prog.recurses 5)) = true := by kernel_rfl
theorem snapshotReads_j12 : ((Rows.snapshotReadsRow.named == Tryz.prog.varsNamed 5)) = true := by kernel_rfl
theorem snapshotReads_j13 : ((Rows.snapshotReadsRow.maps == (Tryz.f5.params.toList ++ Rows.snapshotReadsSpec.plain.varTypes Tryz.prog).any (Tryz.prog.mapsRec ·))) = true := by kernel_rfl
theorem snapshotReads_j14 : ((Rows.snapshotReadsRow.ifaces == (Tryz.f5.params.toList ++ Rows.snapshotReadsSpec.plain.varTypes Tryz.prog).any (Tryz.prog.ifacesRec ·))) = true := by kernel_rfl
theorem snapshotReads_j15 : ((Rows.snapshotReadsRow.mapsOut == Tryz.prog.mapsAmong Tryz.f5.resultTypes.toList)) = true := by kernel_rfl
theorem snapshotReads_j16 : ((Rows.snapshotReadsRow.loops == (Tryz.f5.params.toList ++ Rows.snapshotReadsSpec.plain.varTypes Tryz.prog).any (Tryz.prog.loopsFrom ·))) = true := by kernel_rfl
theorem snapshotReads_j17 : ((Rows.snapshotReadsRow.wideKeys == (Tryz.f5.params.toList ++ Rows.snapshotReadsSpec.plain.varTypes Tryz.prog ++ Tryz.f5.resultTypes.toList).any (Tryz.prog.wideKeysFrom ·))) = true := by kernel_rfl
theorem snapshotReads_j18 : (Rows.snapshotReadsSpec.vars.all (Tryz.prog.varReadable ·)) = true := by kernel_rfl
theorem snapshotReads_j19 : (Tryz.f5.resultTypes.all (fun t => Tryz.prog.readableRec t && decide (t < Tryz.prog.types.size))) = true := by kernel_rfl
theorem snapshotReads_j20 : ((Rows.snapshotReadsRow.ifacesOut == Tryz.f5.resultTypes.toList.any (Tryz.prog.ifacesRec ·))) = true := by kernel_rfl
theorem snapshotReads_j21 : ((Rows.snapshotReadsRow.loopsOut == Tryz.f5.resultTypes.toList.any (Tryz.prog.loopsFrom ·))) = true := by kernel_rfl
theorem snapshotReads_j22 : ((Rows.snapshotReadsRow.plainKeys == Tryz.prog.plainKeys)) = true := by kernel_rfl
theorem snapshotReads_j23 : (Rows.snapshotReadsRow.shortTexts.isNone) = true := by kernel_rfl
theorem snapshotReads_j24 : (Tryz.prog.stopsHeard) = true := by kernel_rfl
theorem snapshotReads_j25 : (Tryz.prog.mayEnter) = true := by kernel_rfl
theorem snapshotReads_j26 : ((Rows.snapshotReadsRow.lifted == Tryz.prog.liftsFinal)) = true := by kernel_rfl
theorem snapshotReads_j27 : ((Tryz.prog.make == some Rows.snapshotReadsRow.make)) = true := by kernel_rfl
theorem snapshotReads_j28 : ((Rows.snapshotReadsRow.kinds == (if Rows.snapshotReadsRow.domain.isEmpty then [] else Tryz.f5.params.toList.map fun t => match Tryz.prog.underlying t with | some (.int k) => some k | _ => none))) = true := by kernel_rfl
theorem snapshotReads_j29 : ((Rows.snapshotReadsRow.pinned == Rows.snapshotReadsRow.pinnedBy)) = true := by kernel_rfl
theorem snapshotReads_j30 : ((Rows.snapshotReadsRow.veiled == (Tryz.f5.params.toList ++ Rows.snapshotReadsSpec.plain.varTypes Tryz.prog ++ Tryz.f5.resultTypes.toList).any (Tryz.prog.veiledRec ·))) = true := by kernel_rfl
theorem snapshotReads_j31 : (Rows.snapshotReadsRow.veiledFits Tryz.prog Tryz.f5.params.toList (Tryz.f5.params.toList ++ Rows.snapshotReadsSpec.plain.varTypes Tryz.prog ++ Tryz.f5.resultTypes.toList)) = true := by kernel_rfl
theorem and2 {a b : Bool} (h1 : a = true) (h2 : b = true) : (a && b) = true := by rw [h1, h2]; rfl
theorem snapshotReads_closed : joinedFacts Tryz.prog 5 Tryz.f5 Rows.snapshotReadsSpec Rows.snapshotReadsRow = true := by
  unfold joinedFacts
  exact and2 (and2 (and2 (and2 (and2 (and2 (and2 (and2 (and2 (and2 (and2 (and2 (and2 (and2 (and2 (and2 (and2 (and2 (and2 (and2 (and2 (and2 (and2 (and2 (and2 (and2 (and2 (and2 (and2 (and2 (and2 snapshotReads_j0 snapshotReads_j1) snapshotReads_j2) snapshotReads_j3) snapshotReads_j4) snapshotReads_j5) snapshotReads_j6) snapshotReads_j7) snapshotReads_j8) snapshotReads_j9) snapshotReads_j10) snapshotReads_j11) snapshotReads_j12) snapshotReads_j13) snapshotReads_j14) snapshotReads_j15) snapshotReads_j16) snapshotReads_j17) snapshotReads_j18) snapshotReads_j19) snapshotReads_j20) snapshotReads_j21) snapshotReads_j22) snapshotReads_j23) snapshotReads_j24) snapshotReads_j25) snapshotReads_j26) snapshotReads_j27) snapshotReads_j28) snapshotReads_j29) snapshotReads_j30) snapshotReads_j31
end Go.Proofs.YtebokaoegomboaaGreatDoor
