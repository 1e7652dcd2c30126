/-
  The statement 'SnapshotRightCardSaid': the closed facts of its row. No condition beyond the statement's own.
-/
import Derived.Test.YtebokaoegomboaaGreatDoorRows
import Derived.JoinedOf
import Derived.KernelRfl
namespace Go.Proofs.YtebokaoegomboaaGreatDoor
open Go
set_option maxRecDepth 100000
theorem snapshotRight_j0 : (Rows.snapshotRightRow.wf (OpenSpec.ofChange Rows.snapshotRightSpec)) = true := by kernel_rfl
theorem snapshotRight_j1 : (laidOutB Tryz.prog) = true := by kernel_rfl
theorem snapshotRight_j2 : (mapsRowed Tryz.prog) = true := by kernel_rfl
theorem snapshotRight_j3 : (Tryz.f4.params.all (Tryz.prog.readableRec ·)) = true := by kernel_rfl
theorem snapshotRight_j4 : (namedTie Tryz.prog Rows.snapshotRightRow.named Rows.snapshotRightSpec.vars) = true := by kernel_rfl
theorem snapshotRight_j5 : ((Rows.snapshotRightRow.stops == [])) = true := by kernel_rfl
theorem snapshotRight_j6 : ((Tryz.prog.stops == [])) = true := by kernel_rfl
theorem snapshotRight_j7 : ((Rows.snapshotRightRow.knobs == [])) = true := by kernel_rfl
theorem snapshotRight_j8 : ((Tryz.prog.stopKnobs == [])) = true := by kernel_rfl
theorem snapshotRight_j9 : ((Rows.snapshotRightRow.inPlace == Tryz.prog.inPlace 4)) = true := by kernel_rfl
theorem snapshotRight_j10 : ((Rows.snapshotRightRow.unfollowed == Tryz.prog.unfollowed 4)) = true := by kernel_rfl
theorem snapshotRight_j11 : ((Rows.snapshotRightRow.recurses == Tryz.prog.recurses 4)) = true := by kernel_rfl
theorem snapshotRight_j12 : ((Rows.snapshotRightRow.named == Tryz.prog.varsNamed 4)) = true := by kernel_rfl
theorem snapshotRight_j13 : ((Rows.snapshotRightRow.maps == (Tryz.f4.params.toList ++ Rows.snapshotRightSpec.plain.varTypes Tryz.prog).any (Tryz.prog.mapsRec ·))) = true := by kernel_rfl
theorem snapshotRight_j14 : ((Rows.snapshotRightRow.ifaces == (Tryz.f4.params.toList ++ Rows.snapshotRightSpec.plain.varTypes Tryz.prog).any (Tryz.prog.ifacesRec ·))) = true := by kernel_rfl
theorem snapshotRight_j15 : ((Rows.snapshotRightRow.mapsOut == Tryz.prog.mapsAmong Tryz.f4.resultTypes.toList)) = true := by kernel_rfl
theorem snapshotRight_j16 : ((Rows.snapshotRightRow.loops == (Tryz.f4.params.toList ++ Rows.snapshotRightSpec.plain.varTypes Tryz.prog).any (Tryz.prog.loopsFrom ·))) = true := by kernel_rfl
theorem snapshotRight_j17 : ((Rows.snapshotRightRow.wideKeys == (Tryz.f4.params.toList ++ Rows.snapshotRightSpec.plain.varTypes Tryz.prog ++ Tryz.f4.resultTypes.toList).any (Tryz.prog.wideKeysFrom ·))) = true := by kernel_rfl
theorem snapshotRight_j18 : (Rows.snapshotRightSpec.vars.all (Tryz.prog.varReadable ·)) = true := by kernel_rfl
theorem snapshotRight_j19 : (Tryz.f4.resultTypes.all (fun t => Tryz.prog.readableRec t && decide (t < Tryz.prog.types.size))) = true := by kernel_rfl
theorem snapshotRight_j20 : ((Rows.snapshotRightRow.ifacesOut == Tryz.f4.resultTypes.toList.any (Tryz.prog.ifacesRec ·))) = true := by kernel_rfl
theorem snapshotRight_j21 : ((Rows.snapshotRightRow.loopsOut == Tryz.f4.resultTypes.toList.any (Tryz.prog.loopsFrom ·))) = true := by kernel_rfl
theorem snapshotRight_j22 : ((Rows.snapshotRightRow.plainKeys == Tryz.prog.plainKeys)) = true := by kernel_rfl
theorem snapshotRight_j23 : (Rows.snapshotRightRow.shortTexts.isNone) = true := by kernel_rfl
theorem snapshotRight_j24 : (Tryz.prog.stopsHeard) = true := by kernel_rfl
theorem snapshotRight_j25 : (Tryz.prog.mayEnter) = true := by kernel_rfl
theorem snapshotRight_j26 : ((Rows.snapshotRightRow.lifted == Tryz.prog.liftsFinal)) = true := by kernel_rfl
theorem snapshotRight_j27 : ((Tryz.prog.make == some Rows.snapshotRightRow.make)) = true := by kernel_rfl
theorem snapshotRight_j28 : ((Rows.snapshotRightRow.kinds == (if Rows.snapshotRightRow.domain.isEmpty then [] else Tryz.f4.params.toList.map fun t => match Tryz.prog.underlying t with | some (.int k) => some k | _ => none))) = true := by kernel_rfl
theorem snapshotRight_j29 : ((Rows.snapshotRightRow.pinned == Rows.snapshotRightRow.pinnedBy)) = true := by kernel_rfl
theorem snapshotRight_j30 : ((Rows.snapshotRightRow.veiled == (Tryz.f4.params.toList ++ Rows.snapshotRightSpec.plain.varTypes Tryz.prog ++ Tryz.f4.resultTypes.toList).any (Tryz.prog.veiledRec ·))) = true := by kernel_rfl
theorem snapshotRight_j31 : (Rows.snapshotRightRow.veiledFits Tryz.prog Tryz.f4.params.toList (Tryz.f4.params.toList ++ Rows.snapshotRightSpec.plain.varTypes Tryz.prog ++ Tryz.f4.resultTypes.toList)) = true := by kernel_rfl
theorem and2 {a b : Bool} (h1 : a = true) (h2 : b = true) : (a && b) = true := by rw [h1, h2]; rfl
theorem snapshotRight_closed : joinedFacts Tryz.prog 4 Tryz.f4 Rows.snapshotRightSpec Rows.snapshotRightRow = true := by
  unfold joinedFacts
  exact and2 (and2 (and2 (and2 (and2 (and2 (and2 (and2 (and2 (and2 (and2 (and2 (and2 (and2 (and2 (and2 (and2 (and2 (and2 (and2 (and2 (and2 (and2 (and2 (and2 (and2 (and2 (and2 (and2 (and2 (and2 snapshotRight_j0 snapshotRight_j1) snapshotRight_j2) snapshotRight_j3) snapshotRight_j4) snapshotRight_j5) snapshotRight_j6) snapshotRight_j7) snapshotRight_j8) snapshotRight_j9) snapshotRight_j10) snapshotRight_j11) snapshotRight_j12) snapshotRight_j13) snapshotRight_j14) snapshotRight_j15) snapshotRight_j16) snapshotRight_j17) snapshotRight_j18) snapshotRight_j19) snapshotRight_j20) snapshotRight_j21) snapshotRight_j22) snapshotRight_j23) snapshotRight_j24) snapshotRight_j25) snapshotRight_j26) snapshotRight_j27) snapshotRight_j28) snapshotRight_j29) snapshotRight_j30) snapshotRight_j31
end Go.Proofs.YtebokaoegomboaaGreatDoor
