/-
  The statement 'SnapshotPlaysCardSaid': the closed facts of its row. No condition beyond the statement's own.
-/
import Derived.Test.YtebokaoegomboaaGreatDoorRows
import Derived.JoinedOf
import Derived.KernelRfl
namespace Go.Proofs.YtebokaoegomboaaGreatDoor
open Go
set_option maxRecDepth 100000
theorem snapshotPlays_j0 : (Rows.snapshotPlaysRow.wf (OpenSpec.ofChange Rows.snapshotPlaysSpec)) = true := by kernel_rfl
theorem snapshotPlays_j1 : (laidOutB Tryz.prog) = true := by kernel_rfl
theorem snapshotPlays_j2 : (mapsRowed Tryz.prog) = true := by kernel_rfl
theorem snapshotPlays_j3 : (Tryz.f6.params.all (Tryz.prog.readableRec ·)) = true := by kernel_rfl
theorem snapshotPlays_j4 : (namedTie Tryz.prog Rows.snapshotPlaysRow.named Rows.snapshotPlaysSpec.vars) = true := by kernel_rfl
theorem snapshotPlays_j5 : ((Rows.snapshotPlaysRow.stops == [])) = true := by kernel_rfl
theorem snapshotPlays_j6 : ((Tryz.prog.stops == [])) = true := by kernel_rfl
theorem snapshotPlays_j7 : ((Rows.snapshotPlaysRow.knobs == [])) = true := by kernel_rfl
theorem snapshotPlays_j8 : ((Tryz.prog.stopKnobs == [])) = true := by kernel_rfl
theorem snapshotPlays_j9 : ((Rows.snapshotPlaysRow.inPlace == Tryz.prog.inPlace 6)) = true := by kernel_rfl
theorem snapshotPlays_j10 : ((Rows.snapshotPlaysRow.unfollowed == Tryz.prog.unfollowed 6)) = true := by kernel_rfl
theorem snapshotPlays_j11 : ((Rows.snapshotPlaysRow.recurses == Tryz.prog.recurses 6)) = true := by kernel_rfl
theorem snapshotPlays_j12 : ((Rows.snapshotPlaysRow.named == Tryz.prog.varsNamed 6)) = true := by kernel_rfl
theorem snapshotPlays_j13 : ((Rows.snapshotPlaysRow.maps == (Tryz.f6.params.toList ++ Rows.snapshotPlaysSpec.plain.varTypes Tryz.prog).any (Tryz.prog.mapsRec ·))) = true := by kernel_rfl
theorem snapshotPlays_j14 : ((Rows.snapshotPlaysRow.ifaces == (Tryz.f6.params.toList ++ Rows.snapshotPlaysSpec.plain.varTypes Tryz.prog).any (Tryz.prog.ifacesRec ·))) = true := by kernel_rfl
theorem snapshotPlays_j15 : ((Rows.snapshotPlaysRow.mapsOut == Tryz.prog.mapsAmong Tryz.f6.resultTypes.toList)) = true := by kernel_rfl
theorem snapshotPlays_j16 : ((Rows.snapshotPlaysRow.loops == (Tryz.f6.params.toList ++ Rows.snapshotPlaysSpec.plain.varTypes Tryz.prog).any (Tryz.prog.loopsFrom ·))) = true := by kernel_rfl
theorem snapshotPlays_j17 : ((Rows.snapshotPlaysRow.wideKeys == (Tryz.f6.params.toList ++ Rows.snapshotPlaysSpec.plain.varTypes Tryz.prog ++ Tryz.f6.resultTypes.toList).any (Tryz.prog.wideKeysFrom ·))) = true := by kernel_rfl
theorem snapshotPlays_j18 : (Rows.snapshotPlaysSpec.vars.all (Tryz.prog.varReadable ·)) = true := by kernel_rfl
theorem snapshotPlays_j19 : (Tryz.f6.resultTypes.all (fun t => Tryz.prog.readableRec t && decide (t < Tryz.prog.types.size))) = true := by kernel_rfl
theorem snapshotPlays_j20 : ((Rows.snapshotPlaysRow.ifacesOut == Tryz.f6.resultTypes.toList.any (Tryz.prog.ifacesRec ·))) = true := by kernel_rfl
theorem snapshotPlays_j21 : ((Rows.snapshotPlaysRow.loopsOut == Tryz.f6.resultTypes.toList.any (Tryz.prog.loopsFrom ·))) = true := by kernel_rfl
theorem snapshotPlays_j22 : ((Rows.snapshotPlaysRow.plainKeys == Tryz.prog.plainKeys)) = true := by kernel_rfl
theorem snapshotPlays_j23 : (Rows.snapshotPlaysRow.shortTexts.isNone) = true := by kernel_rfl
theorem snapshotPlays_j24 : (Tryz.prog.stopsHeard) = true := by kernel_rfl
theorem snapshotPlays_j25 : (Tryz.prog.mayEnter) = true := by kernel_rfl
theorem snapshotPlays_j26 : ((Rows.snapshotPlaysRow.lifted == Tryz.prog.liftsFinal)) = true := by kernel_rfl
theorem snapshotPlays_j27 : ((Tryz.prog.make == some Rows.snapshotPlaysRow.make)) = true := by kernel_rfl
theorem snapshotPlays_j28 : ((Rows.snapshotPlaysRow.kinds == (if Rows.snapshotPlaysRow.domain.isEmpty then [] else Tryz.f6.params.toList.map fun t => match Tryz.prog.underlying t with | some (.int k) => some k | _ => none))) = true := by kernel_rfl
theorem snapshotPlays_j29 : ((Rows.snapshotPlaysRow.pinned == Rows.snapshotPlaysRow.pinnedBy)) = true := by kernel_rfl
theorem snapshotPlays_j30 : ((Rows.snapshotPlaysRow.veiled == (Tryz.f6.params.toList ++ Rows.snapshotPlaysSpec.plain.varTypes Tryz.prog ++ Tryz.f6.resultTypes.toList).any (Tryz.prog.veiledRec ·))) = true := by kernel_rfl
theorem snapshotPlays_j31 : (Rows.snapshotPlaysRow.veiledFits Tryz.prog Tryz.f6.params.toList (Tryz.f6.params.toList ++ Rows.snapshotPlaysSpec.plain.varTypes Tryz.prog ++ Tryz.f6.resultTypes.toList)) = true := by kernel_rfl
theorem and2 {a b : Bool} (h1 : a = true) (h2 : b = true) : (a && b) = true := by rw [h1, h2]; rfl
theorem snapshotPlays_closed : joinedFacts Tryz.prog 6 Tryz.f6 Rows.snapshotPlaysSpec Rows.snapshotPlaysRow = true := by
  unfold joinedFacts
  exact and2 (and2 (and2 (and2 (and2 (and2 (and2 (and2 (and2 (and2 (and2 (and2 (and2 (and2 (and2 (and2 (and2 (and2 (and2 (and2 (and2 (and2 (and2 (and2 (and2 (and2 (and2 (and2 (and2 (and2 (and2 snapshotPlays_j0 snapshotPlays_j1) snapshotPlays_j2) snapshotPlays_j3) snapshotPlays_j4) snapshotPlays_j5) snapshotPlays_j6) snapshotPlays_j7) snapshotPlays_j8) snapshotPlays_j9) snapshotPlays_j10) snapshotPlays_j11) snapshotPlays_j12) snapshotPlays_j13) snapshotPlays_j14) snapshotPlays_j15) snapshotPlays_j16) snapshotPlays_j17) snapshotPlays_j18) snapshotPlays_j19) snapshotPlays_j20) snapshotPlays_j21) snapshotPlays_j22) snapshotPlays_j23) snapshotPlays_j24) snapshotPlays_j25) snapshotPlays_j26) snapshotPlays_j27) snapshotPlays_j28) snapshotPlays_j29) snapshotPlays_j30) snapshotPlays_j31
end Go.Proofs.YtebokaoegomboaaGreatDoor
