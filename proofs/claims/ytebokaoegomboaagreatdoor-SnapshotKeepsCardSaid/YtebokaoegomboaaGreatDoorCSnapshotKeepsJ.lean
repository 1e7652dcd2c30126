/-
  The statement 'SnapshotKeepsCardSaid': the closed facts of its row. No condition beyond the statement's own.
-/
import Derived.Test.YtebokaoegomboaaGreatDoorRows
import Derived.JoinedOf
import Derived.KernelRfl
namespace Go.Proofs.YtebokaoegomboaaGreatDoor
open Go
set_option maxRecDepth 100000
theorem snapshotKeeps_j0 : (Rows.snapshotKeepsRow.wf (OpenSpec.ofChange Rows.snapshotKeepsSpec)) = true := by kernel_rfl
theorem snapshotKeeps_j1 : (laidOutB Tryz.prog) = true := by kernel_rfl
theorem snapshotKeeps_j2 : (mapsRowed Tryz.prog) = true := by kernel_rfl
theorem snapshotKeeps_j3 : (Tryz.f8.params.all (Tryz.prog.readableRec ·)) = true := by kernel_rfl
theorem snapshotKeeps_j4 : (namedTie Tryz.prog Rows.snapshotKeepsRow.named Rows.snapshotKeepsSpec.vars) = true := by kernel_rfl
theorem snapshotKeeps_j5 : ((Rows.snapshotKeepsRow.stops == [])) = true := by kernel_rfl
theorem snapshotKeeps_j6 : ((Tryz.prog.stops == [])) = true := by kernel_rfl
theorem snapshotKeeps_j7 : ((Rows.snapshotKeepsRow.knobs == [])) = true := by kernel_rfl
theorem snapshotKeeps_j8 : ((Tryz.prog.stopKnobs == [])) = true := by kernel_rfl
theorem snapshotKeeps_j9 : ((Rows.snapshotKeepsRow.inPlace == Tryz.prog.inPlace 8)) = true := by kernel_rfl
theorem snapshotKeeps_j10 : ((Rows.snapshotKeepsRow.unfollowed == Tryz.prog.unfollowed 8)) = true := by kernel_rfl
theorem snapshotKeeps_j11 : ((Rows.snapshotKeepsRow.recurses == Tryz.prog.recurses 8)) = true := by kernel_rfl
theorem snapshotKeeps_j12 : ((Rows.snapshotKeepsRow.named == Tryz.prog.varsNamed 8)) = true := by kernel_rfl
theorem snapshotKeeps_j13 : ((Rows.snapshotKeepsRow.maps == (Tryz.f8.params.toList ++ Rows.snapshotKeepsSpec.plain.varTypes Tryz.prog).any (Tryz.prog.mapsRec ·))) = true := by kernel_rfl
theorem snapshotKeeps_j14 : ((Rows.snapshotKeepsRow.ifaces == (Tryz.f8.params.toList ++ Rows.snapshotKeepsSpec.plain.varTypes Tryz.prog).any (Tryz.prog.ifacesRec ·))) = true := by kernel_rfl
theorem snapshotKeeps_j15 : ((Rows.snapshotKeepsRow.mapsOut == Tryz.prog.mapsAmong Tryz.f8.resultTypes.toList)) = true := by kernel_rfl
theorem snapshotKeeps_j16 : ((Rows.snapshotKeepsRow.loops == (Tryz.f8.params.toList ++ Rows.snapshotKeepsSpec.plain.varTypes Tryz.prog).any (Tryz.prog.loopsFrom ·))) = true := by kernel_rfl
theorem snapshotKeeps_j17 : ((Rows.snapshotKeepsRow.wideKeys == (Tryz.f8.params.toList ++ Rows.snapshotKeepsSpec.plain.varTypes Tryz.prog ++ Tryz.f8.resultTypes.toList).any (Tryz.prog.wideKeysFrom ·))) = true := by kernel_rfl
theorem snapshotKeeps_j18 : (Rows.snapshotKeepsSpec.vars.all (Tryz.prog.varReadable ·)) = true := by kernel_rfl
theorem snapshotKeeps_j19 : (Tryz.f8.resultTypes.all (fun t => Tryz.prog.readableRec t && decide (t < Tryz.prog.types.size))) = true := by kernel_rfl
theorem snapshotKeeps_j20 : ((Rows.snapshotKeepsRow.ifacesOut == Tryz.f8.resultTypes.toList.any (Tryz.prog.ifacesRec ·))) = true := by kernel_rfl
theorem snapshotKeeps_j21 : ((Rows.snapshotKeepsRow.loopsOut == Tryz.f8.resultTypes.toList.any (Tryz.prog.loopsFrom ·))) = true := by kernel_rfl
theorem snapshotKeeps_j22 : ((Rows.snapshotKeepsRow.plainKeys == Tryz.prog.plainKeys)) = true := by kernel_rfl
theorem snapshotKeeps_j23 : (Rows.snapshotKeepsRow.shortTexts.isNone) = true := by kernel_rfl
theorem snapshotKeeps_j24 : (Tryz.prog.stopsHeard) = true := by kernel_rfl
theorem snapshotKeeps_j25 : (Tryz.prog.mayEnter) = true := by kernel_rfl
theorem snapshotKeeps_j26 : ((Rows.snapshotKeepsRow.lifted == Tryz.prog.liftsFinal)) = true := by kernel_rfl
theorem snapshotKeeps_j27 : ((Tryz.prog.make == some Rows.snapshotKeepsRow.make)) = true := by kernel_rfl
theorem snapshotKeeps_j28 : ((Rows.snapshotKeepsRow.kinds == (if Rows.snapshotKeepsRow.domain.isEmpty then [] else Tryz.f8.params.toList.map fun t => match Tryz.prog.underlying t with | some (.int k) => some k | _ => none))) = true := by kernel_rfl
theorem snapshotKeeps_j29 : ((Rows.snapshotKeepsRow.pinned == Rows.snapshotKeepsRow.pinnedBy)) = true := by kernel_rfl
theorem snapshotKeeps_j30 : ((Rows.snapshotKeepsRow.veiled == (Tryz.f8.params.toList ++ Rows.snapshotKeepsSpec.plain.varTypes Tryz.prog ++ Tryz.f8.resultTypes.toList).any (Tryz.prog.veiledRec ·))) = true := by kernel_rfl
theorem snapshotKeeps_j31 : (Rows.snapshotKeepsRow.veiledFits Tryz.prog Tryz.f8.params.toList (Tryz.f8.params.toList ++ Rows.snapshotKeepsSpec.plain.varTypes Tryz.prog ++ Tryz.f8.resultTypes.toList)) = true := by kernel_rfl
theorem and2 {a b : Bool} (h1 : a = true) (h2 : b = true) : (a && b) = true := by rw [h1, h2]; rfl
theorem snapshotKeeps_closed : joinedFacts Tryz.prog 8 Tryz.f8 Rows.snapshotKeepsSpec Rows.snapshotKeepsRow = true := by
  unfold joinedFacts
  exact and2 (and2 (and2 (and2 (and2 (and2 (and2 (and2 (and2 (and2 (and2 (and2 (and2 (and2 (and2 (and2 (and2 (and2 (and2 (and2 (and2 (and2 (and2 (and2 (and2 (and2 (and2 (and2 (and2 (and2 (and2 snapshotKeeps_j0 snapshotKeeps_j1) snapshotKeeps_j2) snapshotKeeps_j3) snapshotKeeps_j4) snapshotKeeps_j5) snapshotKeeps_j6) snapshotKeeps_j7) snapshotKeeps_j8) snapshotKeeps_j9) snapshotKeeps_j10) snapshotKeeps_j11) snapshotKeeps_j12) snapshotKeeps_j13) snapshotKeeps_j14) snapshotKeeps_j15) snapshotKeeps_j16) snapshotKeeps_j17) snapshotKeeps_j18) snapshotKeeps_j19) snapshotKeeps_j20) snapshotKeeps_j21) snapshotKeeps_j22) snapshotKeeps_j23) snapshotKeeps_j24) snapshotKeeps_j25) snapshotKeeps_j26) snapshotKeeps_j27) snapshotKeeps_j28) snapshotKeeps_j29) snapshotKeeps_j30) snapshotKeeps_j31
end Go.Proofs.YtebokaoegomboaaGreatDoor
