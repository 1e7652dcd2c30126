/-
  The statement 'PlumberFilesCardSaid': the closed facts of its row. No condition beyond the statement's own.
-/
import Derived.Test.YtfbcbakhdkppoaaGreatDoorRows
import Derived.JoinedOf
import Derived.KernelRfl
namespace Go.Proofs.YtfbcbakhdkppoaaGreatDoor
open Go
set_option maxRecDepth 100000
theorem plumberFiles_j0 : (Rows.plumberFilesRow.wf (OpenSpec.ofChange Rows.plumberFilesSpec)) = true := by kernel_rfl
theorem plumberFiles_j1 : (laidOutB Tryz.prog) = true := by kernel_rfl
theorem plumberFiles_j2 : (mapsRowed Tryz.prog) = true := by kernel_rfl
theorem plumberFiles_j3 : (Tryz.f7.params.all (Tryz.prog.readableRec ·)) = true := by kernel_rfl
theorem plumberFiles_j4 : (namedTie Tryz.prog Rows.plumberFilesRow.named Rows.plumberFilesSpec.vars) = true := by kernel_rfl
theorem plumberFiles_j5 : ((Rows.plumberFilesRow.stops == [])) = true := by kernel_rfl
theorem plumberFiles_j6 : ((Tryz.prog.stops == [])) = true := by kernel_rfl
theorem plumberFiles_j7 : ((Rows.plumberFilesRow.knobs == [])) = true := by kernel_rfl
theorem plumberFiles_j8 : ((Tryz.prog.stopKnobs == [])) = true := by kernel_rfl
theorem plumberFiles_j9 : ((Rows.plumberFilesRow.inPlace == Tryz.prog.inPlace 7)) = true := by kernel_rfl
theorem plumberFiles_j10 : ((Rows.plumberFilesRow.unfollowed == Tryz.prog.unfollowed 7)) = true := by kernel_rfl
theorem plumberFiles_j11 : ((Rows.plumberFilesRow.recurses == Tryz.prog.recurses 7)) = true := by kernel_rfl
theorem plumberFiles_j12 : ((Rows.plumberFilesRow.named == Tryz.prog.varsNamed 7)) = true := by kernel_rfl
theorem plumberFiles_j13 : ((Rows.plumberFilesRow.maps == (Tryz.f7.params.toList ++ Rows.plumberFilesSpec.plain.varTypes Tryz.prog).any (Tryz.prog.mapsRec ·))) = true := by kernel_rfl
theorem plumberFiles_j14 : ((Rows.plumberFilesRow.ifaces == (Tryz.f7.params.toList ++ Rows.plumberFilesSpec.plain.varTypes Tryz.prog).any (Tryz.prog.ifacesRec ·))) = true := by kernel_rfl
theorem plumberFiles_j15 : ((Rows.plumberFilesRow.mapsOut == Tryz.prog.mapsAmong Tryz.f7.resultTypes.toList)) = true := by kernel_rfl
theorem plumberFiles_j16 : ((Rows.plumberFilesRow.loops == (Tryz.f7.params.toList ++ Rows.plumberFilesSpec.plain.varTypes Tryz.prog).any (Tryz.prog.loopsFrom ·))) = true := by kernel_rfl
theorem plumberFiles_j17 : ((Rows.plumberFilesRow.wideKeys == (Tryz.f7.params.toList ++ Rows.plumberFilesSpec.plain.varTypes Tryz.prog ++ Tryz.f7.resultTypes.toList).any (Tryz.prog.wideKeysFrom ·))) = true := by kernel_rfl
theorem plumberFiles_j18 : (Rows.plumberFilesSpec.vars.all (Tryz.prog.varReadable ·)) = true := by kernel_rfl
theorem plumberFiles_j19 : (Tryz.f7.resultTypes.all (fun t => Tryz.prog.readableRec t && decide (t < Tryz.prog.types.size))) = true := by kernel_rfl
theorem plumberFiles_j20 : ((Rows.plumberFilesRow.ifacesOut == Tryz.f7.resultTypes.toList.any (Tryz.prog.ifacesRec ·))) = true := by kernel_rfl
theorem plumberFiles_j21 : ((Rows.plumberFilesRow.loopsOut == Tryz.f7.resultTypes.toList.any (Tryz.prog.loopsFrom ·))) = true := by kernel_rfl
theorem plumberFiles_j22 : ((Rows.plumberFilesRow.plainKeys == Tryz.prog.plainKeys)) = true := by kernel_rfl
theorem plumberFiles_j23 : (Rows.plumberFilesRow.shortTexts.isNone) = true := by kernel_rfl
theorem plumberFiles_j24 : (Tryz.prog.stopsHeard) = true := by kernel_rfl
theorem plumberFiles_j25 : (Tryz.prog.mayEnter) = true := by kernel_rfl
theorem plumberFiles_j26 : ((Rows.plumberFilesRow.lifted == Tryz.prog.liftsFinal)) = true := by kernel_rfl
theorem plumberFiles_j27 : ((Tryz.prog.make == some Rows.plumberFilesRow.make)) = true := by kernel_rfl
theorem plumberFiles_j28 : ((Rows.plumberFilesRow.kinds == (if Rows.plumberFilesRow.domain.isEmpty then [] else Tryz.f7.params.toList.map fun t => match Tryz.prog.underlying t with | some (.int k) => some k | _ => none))) = true := by kernel_rfl
theorem plumberFiles_j29 : ((Rows.plumberFilesRow.pinned == Rows.plumberFilesRow.pinnedBy)) = true := by kernel_rfl
theorem plumberFiles_j30 : ((Rows.plumberFilesRow.veiled == (Tryz.f7.params.toList ++ Rows.plumberFilesSpec.plain.varTypes Tryz.prog ++ Tryz.f7.resultTypes.toList).any (Tryz.prog.veiledRec ·))) = true := by kernel_rfl
theorem plumberFiles_j31 : (Rows.plumberFilesRow.veiledFits Tryz.prog Tryz.f7.params.toList (Tryz.f7.params.toList ++ Rows.plumberFilesSpec.plain.varTypes Tryz.prog ++ Tryz.f7.resultTypes.toList)) = true := by kernel_rfl
theorem and2 {a b : Bool} (h1 : a = true) (h2 : b = true) : (a && b) = true := by rw [h1, h2]; rfl
theorem plumberFiles_closed : joinedFacts Tryz.prog 7 Tryz.f7 Rows.plumberFilesSpec Rows.plumberFilesRow = true := by
  unfold joinedFacts
  exact and2 (and2 (and2 (and2 (and2 (and2 (and2 (and2 (and2 (and2 (and2 (and2 (and2 (and2 (and2 (and2 (and2 (and2 (and2 (and2 (and2 (and2 (and2 (and2 (and2 (and2 (and2 (and2 (and2 (and2 (and2 plumberFiles_j0 plumberFiles_j1) plumberFiles_j2) plumberFiles_j3) plumberFiles_j4) plumberFiles_j5) plumberFiles_j6) plumberFiles_j7) plumberFiles_j8) plumberFiles_j9) plumberFiles_j10) plumberFiles_j11) plumberFiles_j12) plumberFiles_j13) plumberFiles_j14) plumberFiles_j15) plumberFiles_j16) plumberFiles_j17) plumberFiles_j18) plumberFiles_j19) plumberFiles_j20) plumberFiles_j21) plumberFiles_j22) plumberFiles_j23) plumberFiles_j24) plumberFiles_j25) plumberFiles_j26) plumberFiles_j27) plumberFiles_j28) plumberFiles_j29) plumberFiles_j30) plumberFiles_j31
end Go.Proofs.YtfbcbakhdkppoaaGreatDoor
