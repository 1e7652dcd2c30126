/-
  The statement 'PlumberRightCardSaid': the closed facts of its row. No condition beyond the statement's own.
-/
import Derived.Test.YtfbcbakhdkppoaaGreatDoorRows
import Derived.JoinedOf
import Derived.KernelRfl
namespace Go.Proofs.YtfbcbakhdkppoaaGreatDoor
open Go
set_option maxRecDepth 100000
theorem plumberRight_j0 : (Rows.plumberRightRow.wf (OpenSpec.ofChange Rows.plumberRightSpec)) = true := by kernel_rfl
theorem plumberRight_j1 : (laidOutB Tryz.prog) = true := by kernel_rfl
theorem plumberRight_j2 : (mapsRowed Tryz.prog) = true := by kernel_rfl
theorem plumberRight_j3 : (Tryz.f4.params.all (Tryz.prog.readableRec ·)) = true := by kernel_rfl
theorem plumberRight_j4 : (namedTie Tryz.prog Rows.plumberRightRow.named Rows.plumberRightSpec.vars) = true := by kernel_rfl
theorem plumberRight_j5 : ((Rows.plumberRightRow.stops == [])) = true := by kernel_rfl
theorem plumberRight_j6 : ((Tryz.prog.stops == [])) = true := by kernel_rfl
theorem plumberRight_j7 : ((Rows.plumberRightRow.knobs == [])) = true := by kernel_rfl
theorem plumberRight_j8 : ((Tryz.prog.stopKnobs == [])) = true := by kernel_rfl
theorem plumberRight_j9 : ((Rows.plumberRightRow.inPlace == Tryz.prog.inPlace 4)) = true := by kernel_rfl
theorem plumberRight_j10 : ((Rows.plumberRightRow.unfollowed == Tryz.prog.unfollowed 4)) = true := by kernel_rfl
theorem plumberRight_j11 : ((Rows.plumberRightRow.recurses == Tryz.prog.recurses 4)) = true := by kernel_rfl
theorem plumberRight_j12 : ((Rows.plumberRightRow.named == Tryz.prog.varsNamed 4)) = true := by kernel_rfl
theorem plumberRight_j13 : ((Rows.plumberRightRow.maps == (Tryz.f4.params.toList ++ Rows.plumberRightSpec.plain.varTypes Tryz.prog).any (Tryz.prog.mapsRec ·))) = true := by kernel_rfl
theorem plumberRight_j14 : ((Rows.plumberRightRow.ifaces == (Tryz.f4.params.toList ++ Rows.plumberRightSpec.plain.varTypes Tryz.prog).any (Tryz.prog.ifacesRec ·))) = true := by kernel_rfl
theorem plumberRight_j15 : ((Rows.plumberRightRow.mapsOut == Tryz.prog.mapsAmong Tryz.f4.resultTypes.toList)) = true := by kernel_rfl
theorem plumberRight_j16 : ((Rows.plumberRightRow.loops == (Tryz.f4.params.toList ++ Rows.plumberRightSpec.plain.varTypes Tryz.prog).any (Tryz.prog.loopsFrom ·))) = true := by kernel_rfl
theorem plumberRight_j17 : ((Rows.plumberRightRow.wideKeys == (Tryz.f4.params.toList ++ Rows.plumberRightSpec.plain.varTypes Tryz.prog ++ Tryz.f4.resultTypes.toList).any (Tryz.prog.wideKeysFrom ·))) = true := by kernel_rfl
theorem plumberRight_j18 : (Rows.plumberRightSpec.vars.all (Tryz.prog.varReadable ·)) = true := by kernel_rfl
theorem plumberRight_j19 : (Tryz.f4.resultTypes.all (fun t => Tryz.prog.readableRec t && decide (t < Tryz.prog.types.size))) = true := by kernel_rfl
theorem plumberRight_j20 : ((Rows.plumberRightRow.ifacesOut == Tryz.f4.resultTypes.toList.any (Tryz.prog.ifacesRec ·))) = true := by kernel_rfl
theorem plumberRight_j21 : ((Rows.plumberRightRow.loopsOut == Tryz.f4.resultTypes.toList.any (Tryz.prog.loopsFrom ·))) = true := by kernel_rfl
theorem plumberRight_j22 : ((Rows.plumberRightRow.plainKeys == Tryz.prog.plainKeys)) = true := by kernel_rfl
theorem plumberRight_j23 : (Rows.plumberRightRow.shortTexts.isNone) = true := by kernel_rfl
theorem plumberRight_j24 : (Tryz.prog.stopsHeard) = true := by kernel_rfl
theorem plumberRight_j25 : (Tryz.prog.mayEnter) = true := by kernel_rfl
theorem plumberRight_j26 : ((Rows.plumberRightRow.lifted == Tryz.prog.liftsFinal)) = true := by kernel_rfl
theorem plumberRight_j27 : ((Tryz.prog.make == some Rows.plumberRightRow.make)) = true := by kernel_rfl
theorem plumberRight_j28 : ((Rows.plumberRightRow.kinds == (if Rows.plumberRightRow.domain.isEmpty then [] else Tryz.f4.params.toList.map fun t => match Tryz.prog.underlying t with | some (.int k) => some k | _ => none))) = true := by kernel_rfl
theorem plumberRight_j29 : ((Rows.plumberRightRow.pinned == Rows.plumberRightRow.pinnedBy)) = true := by kernel_rfl
theorem plumberRight_j30 : ((Rows.plumberRightRow.veiled == (Tryz.f4.params.toList ++ Rows.plumberRightSpec.plain.varTypes Tryz.prog ++ Tryz.f4.resultTypes.toList).any (Tryz.prog.veiledRec ·))) = true := by kernel_rfl
theorem plumberRight_j31 : (Rows.plumberRightRow.veiledFits Tryz.prog Tryz.f4.params.toList (Tryz.f4.params.toList ++ Rows.plumberRightSpec.plain.varTypes Tryz.prog ++ Tryz.f4.resultTypes.toList)) = true := by kernel_rfl
theorem and2 {a b : Bool} (h1 : a = true) (h2 : b = true) : (a && b) = true := by rw [h1, h2]; rfl
theorem plumberRight_closed : joinedFacts Tryz.prog 4 Tryz.f4 Rows.plumberRightSpec Rows.plumberRightRow = true := by
  unfold joinedFacts
  exact and2 (and2 (and2 (and2 (and2 (and2 (and2 (and2 (and2 (and2 (and2 (and2 (and2 (and2 (and2 (and2 (and2 (and2 (and2 (and2 (and2 (and2 (and2 (and2 (and2 (and2 (and2 (and2 (and2 (and2 (and2 plumberRight_j0 plumberRight_j1) plumberRight_j2) plumberRight_j3) plumberRight_j4) plumberRight_j5) plumberRight_j6) plumberRight_j7) plumberRight_j8) plumberRight_j9) plumberRight_j10) plumberRight_j11) plumberRight_j12) plumberRight_j13) plumberRight_j14) plumberRight_j15) plumberRight_j16) plumberRight_j17) plumberRight_j18) plumberRight_j19) plumberRight_j20) plumberRight_j21) plumberRight_j22) plumberRight_j23) plumberRight_j24) plumberRight_j25) plumberRight_j26) plumberRight_j27) plumberRight_j28) plumberRight_j29) plumberRight_j30) plumberRight_j31
end Go.Proofs.YtfbcbakhdkppoaaGreatDoor
