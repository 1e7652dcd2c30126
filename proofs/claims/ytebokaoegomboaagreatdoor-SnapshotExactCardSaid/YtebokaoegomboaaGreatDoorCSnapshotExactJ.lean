/-
  The statement 'SnapshotExactCardSaid': the closed facts of its row. No condition beyond the statement's own.
-/
import Derived.Test.YtebokaoegomboaaGreatDoorRows
import Derived.JoinedOf
import Derived.KernelRfl
namespace Go.Proofs.YtebokaoegomboaaGreatDoor
open Go
set_option maxRecDepth 100000
theorem snapshotExact_j0 : (Rows.snapshotExactRow.wf (OpenSpec.ofChange Rows.snapshotExactSpec)) = true := by kernel_rfl
theorem snapshotExact_j1 : (laidOutB Tryz.prog) = true := by kernel_rfl
theorem snapshotExact_j2 : (mapsRowed Tryz.prog) = true := by kernel_rfl
theorem snapshotExact_j3 : (Tryz.f7.params.all (Tryz.prog.readableRec ·)) = true := by kernel_rfl
theorem snapshotExact_j4 : (namedTie Tryz.prog Rows.snapshotExactRow.named Rows.snapshotExactSpec.vars) = true := by kernel_rfl
theorem snapshotExact_j5 : ((Rows.snapshotExactRow.stops == [])) = true := by kernel_rfl
theorem snapshotExact_j6 : ((Tryz.prog.stops == [])) = true := by kernel_rfl
theorem snapshotExact_j7 : ((Rows.snapshotExactRow.knobs == [])) = true := by kernel_rfl
theorem snapshotExact_j8 : ((Tryz.prog.stopKnobs == [])) = true := by kernel_rfl
theorem snapshotExact_j9 : ((Rows.snapshotExactRow.inPlace == Tryz.prog.inPlace 7)) = true := by kernel_rfl
theorem snapshotExact_j10 : ((Rows.snapshotExactRow.unfollowed == Tryz.prog.unfollowed 7)) = true := by kernel_rfl
theorem snapshotExact_j11 : ((Rows.snapshotExactRow.recurses == Tryz.prog.recurses 7)) = true := by kernel_rfl
theorem snapshotExact_j12 : ((Rows.snapshotExactRow.named == Tryz.prog.varsNamed 7)) = true := by kernel_rfl
theorem snapshotExact_j13 : ((Rows.snapshotExactRow.maps == (Tryz.f7.params.toList ++ Rows.snapshotExactSpec.plain.varTypes Tryz.prog).any (Tryz.prog.mapsRec ·))) = true := by kernel_rfl
theorem snapshotExact_j14 : ((Rows.snapshotExactRow.ifaces == (Tryz.f7.params.toList ++ Rows.snapshotExactSpec.plain.varTypes Tryz.prog).any (Tryz.prog.ifacesRec ·))) = true := by kernel_rfl
theorem snapshotExact_j15 : ((Rows.snapshotExactRow.mapsOut == Tryz.prog.mapsAmong Tryz.f7.resultTypes.toList)) = true := by kernel_rfl
theorem snapshotExact_j16 : ((Rows.snapshotExactRow.loops == (Tryz.f7.params.toList ++ Rows.snapshotExactSpec.plain.varTypes Tryz.prog).any (Tryz.prog.loopsFrom ·))) = true := by kernel_rfl
theorem snapshotExact_j17 : ((Rows.snapshotExactRow.wideKeys == (Tryz.f7.params.toList ++ Rows.snapshotExactSpec.plain.varTypes Tryz.prog ++ Tryz.f7.resultTypes.toList).any (Tryz.prog.wideKeysFrom ·))) = true := by kernel_rfl
theorem snapshotExact_j18 : (Rows.snapshotExactSpec.vars.all (Tryz.prog.varReadable ·)) = true := by kernel_rfl
theorem snapshotExact_j19 : (Tryz.f7.resultTypes.all (fun t => Tryz.prog.readableRec t && decide (t < Tryz.prog.types.size))) = true := by kernel_rfl
theorem snapshotExact_j20 : ((Rows.snapshotExactRow.ifacesOut == Tryz.f7.resultTypes.toList.any (Tryz.prog.ifacesRec ·))) = true := by kernel_rfl
theorem snapshotExact_j21 : ((Rows.snapshotExactRow.loopsOut == Tryz.f7.resultTypes.toList.any (Tryz.prog.loopsFrom ·))) = true := by kernel_rfl
theorem snapshotExact_j22 : ((Rows.snapshotExactRow.plainKeys == Tryz.prog.plainKeys)) = true := by kernel_rfl
theorem snapshotExact_j23 : (Rows.snapshotExactRow.shortTexts.isNone) = true := by kernel_rfl
theorem snapshotExact_j24 : (Tryz.prog.stopsHeard) = true := by kernel_rfl
theorem snapshotExact_j25 : (Tryz.prog.mayEnter) = true := by kernel_rfl
theorem snapshotExact_j26 : ((Rows.snapshotExactRow.lifted == Tryz.prog.liftsFinal)) = true := by kernel_rfl
theorem snapshotExact_j27 : ((Tryz.prog.make == some Rows.snapshotExactRow.make)) = true := by kernel_rfl
theorem snapshotExact_j28 : ((Rows.snapshotExactRow.kinds == (if Rows.snapshotExactRow.domain.isEmpty then [] else Tryz.f7.params.toList.map fun t => match Tryz.prog.underlying t with | some (.int k) => some k | _ => none))) = true := by kernel_rfl
theorem snapshotExact_j29 : ((Rows.snapshotExactRow.pinned == Rows.snapshotExactRow.pinnedBy)) = true := by kernel_rfl
theorem snapshotExact_j30 : ((Rows.snapshotExactRow.veiled == (Tryz.f7.params.toList ++ Rows.snapshotExactSpec.plain.varTypes Tryz.prog ++ Tryz.f7.resultTypes.toList).any (Tryz.prog.veiledRec ·))) = true := by kernel_rfl
theorem snapshotExact_j31 : (Rows.snapshotExactRow.veiledFits Tryz.prog Tryz.f7.params.toList (Tryz.f7.params.toList ++ Rows.snapshotExactSpec.plain.varTypes Tryz.prog ++ Tryz.f7.resultTypes.toList)) = true := by kernel_rfl
theorem and2 {a b : Bool} (h1 : a = true) (h2 : b = true) : (a && b) = true := by rw [h1, h2]; rfl
theorem snapshotExact_closed : joinedFacts Tryz.prog 7 Tryz.f7 Rows.snapshotExactSpec Rows.snapshotExactRow = true := by
  unfold joinedFacts
  exact and2 (and2 (and2 (and2 (and2 (and2 (and2 (and2 (and2 (and2 (and2 (and2 (and2 (and2 (and2 (and2 (and2 (and2 (and2 (and2 (and2 (and2 (and2 (and2 (and2 (and2 (and2 (and2 (and2 (and2 (and2 snapshotExact_j0 snapshotExact_j1) snapshotExact_j2) snapshotExact_j3) snapshotExact_j4) snapshotExact_j5) snapshotExact_j6) snapshotExact_j7) snapshotExact_j8) snapshotExact_j9) snapshotExact_j10) snapshotExact_j11) snapshotExact_j12) snapshotExact_j13) snapshotExact_j14) snapshotExact_j15) snapshotExact_j16) snapshotExact_j17) snapshotExact_j18) snapshotExact_j19) snapshotExact_j20) snapshotExact_j21) snapshotExact_j22) snapshotExact_j23) snapshotExact_j24) snapshotExact_j25) snapshotExact_j26) snapshotExact_j27) snapshotExact_j28) snapshotExact_j29) snapshotExact_j30) snapshotExact_j31
end Go.Proofs.YtebokaoegomboaaGreatDoor
