/-
  The statement 'PlumberNewsCardSaid': the closed facts of its row. No condition beyond the statement's own.
-/
import Derived.Test.YtfbcbakhdkppoaaGreatDoorRows
import Derived.JoinedOf
import Derived.KernelRfl
namespace Go.Proofs.YtfbcbakhdkppoaaGreatDoor
open Go
set_option maxRecDepth 100000
theorem plumberNews_j0 : (Rows.plumberNewsRow.wf (OpenSpec.ofChange Rows.plumberNewsSpec)) = true := by kernel_rfl
theorem plumberNews_j1 : (laidOutB Tryz.prog) = true := by kernel_rfl
theorem plumberNews_j2 : (mapsRowed Tryz.prog) = true := by kernel_rfl
theorem plumberNews_j3 : (Tryz.f3.params.all (Tryz.prog.readableRec ·)) = true := by kernel_rfl
theorem plumberNews_j4 : (namedTie Tryz.prog Rows.plumberNewsRow.named Rows.plumberNewsSpec.vars) = true := by kernel_rfl
theorem plumberNews_j5 : ((Rows.plumberNewsRow.stops == [])) = true := by kernel_rfl
theorem plumberNews_j6 : ((Tryz.prog.stops == [])) = true := by kernel_rfl
theorem plumberNews_j7 : ((Rows.plumberNewsRow.knobs == [])) = true := by kernel_rfl
theorem plumberNews_j8 : ((Tryz.prog.stopKnobs == [])) = true := by kernel_rfl
theorem plumberNews_j9 : ((Rows.plumberNewsRow.inPlace == Tryz.prog.inPlace 3)) = true := by kernel_rfl
theorem plumberNews_j10 : ((Rows.plumberNewsRow.unfollowed == Tryz.prog.unfollowed 3)) = true := by kernel_rfl
theorem plumberNews_j11 : ((Rows.plumberNewsRow.recurses == Tryz.prog.recurses 3)) = true := by kernel_rfl
theorem plumberNews_j12 : ((Rows.plumberNewsRow.named == Tryz.prog.varsNamed 3)) = true := by kernel_rfl
theorem plumberNews_j13 : ((Rows.plumberNewsRow.maps == (Tryz.f3.params.toList ++ Rows.plumberNewsSpec.plain.varTypes Tryz.prog).any (Tryz.prog.mapsRec ·))) = true := by kernel_rfl
theorem plumberNews_j14 : ((Rows.plumberNewsRow.ifaces == (Tryz.f3.params.toList ++ Rows.plumberNewsSpec.plain.varTypes Tryz.prog).any (Tryz.prog.ifacesRec ·))) = true := by kernel_rfl
theorem plumberNews_j15 : ((Rows.plumberNewsRow.mapsOut == Tryz.prog.mapsAmong Tryz.f3.resultTypes.toList)) = true := by kernel_rfl
theorem plumberNews_j16 : ((Rows.plumberNewsRow.loops == (Tryz.f3.params.toList ++ Rows.plumberNewsSpec.plain.varTypes Tryz.prog).any (Tryz.prog.loopsFrom ·))) = true := by kernel_rfl
theorem plumberNews_j17 : ((Rows.plumberNewsRow.wideKeys == (Tryz.f3.params.toList ++ Rows.plumberNewsSpec.plain.varTypes Tryz.prog ++ Tryz.f3.resultTypes.toList).any (Tryz.prog.wideKeysFrom ·))) = true := by kernel_rfl
theorem plumberNews_j18 : (Rows.plumberNewsSpec.vars.all (Tryz.prog.varReadable ·)) = true := by kernel_rfl
theorem plumberNews_j19 : (Tryz.f3.resultTypes.all (fun t => Tryz.prog.readableRec t && decide (t < Tryz.prog.types.size))) = true := by kernel_rfl
theorem plumberNews_j20 : ((Rows.plumberNewsRow.ifacesOut == Tryz.f3.resultTypes.toList.any (Tryz.prog.ifacesRec ·))) = true := by kernel_rfl
theorem plumberNews_j21 : ((Rows.plumberNewsRow.loopsOut == Tryz.f3.resultTypes.toList.any (Tryz.prog.loopsFrom ·))) = true := by kernel_rfl
theorem plumberNews_j22 : ((Rows.plumberNewsRow.plainKeys == Tryz.prog.plainKeys)) = true := by kernel_rfl
theorem plumberNews_j23 : (Rows.plumberNewsRow.shortTexts.isNone) = true := by kernel_rfl
theorem plumberNews_j24 : (Tryz.prog.stopsHeard) = true := by kernel_rfl
theorem plumberNews_j25 : (Tryz.prog.mayEnter) = true := by kernel_rfl
theorem plumberNews_j26 : ((Rows.plumberNewsRow.lifted == Tryz.prog.liftsFinal)) = true := by kernel_rfl
theorem plumberNews_j27 : ((Tryz.prog.make == some Rows.plumberNewsRow.make)) = true := by kernel_rfl
theorem plumberNews_j28 : ((Rows.plumberNewsRow.kinds == (if Rows.plumberNewsRow.domain.isEmpty then [] else Tryz.f3.params.toList.map fun t => match Tryz.prog.underlying t with | some (.int k) => some k | _ => none))) = true := by kernel_rfl
theorem plumberNews_j29 : ((Rows.plumberNewsRow.pinned == Rows.plumberNewsRow.pinnedBy)) = true := by kernel_rfl
theorem plumberNews_j30 : ((Rows.plumberNewsRow.veiled == (Tryz.f3.params.toList ++ Rows.plumberNewsSpec.plain.varTypes Tryz.prog ++ Tryz.f3.resultTypes.toList).any (Tryz.prog.veiledRec ·))) = true := by kernel_rfl
theorem plumberNews_j31 : (Rows.plumberNewsRow.veiledFits Tryz.prog Tryz.f3.params.toList (Tryz.f3.params.toList ++ Rows.plumberNewsSpec.plain.varTypes Tryz.prog ++ Tryz.f3.resultTypes.toList)) = true := by kernel_rfl
theorem and2 {a b : Bool} (h1 : a = true) (h2 : b = true) : (a && b) = true := by rw [h1, h2]; rfl
theorem plumberNews_closed : joinedFacts Tryz.prog 3 Tryz.f3 Rows.plumberNewsSpec Rows.plumberNewsRow = true := by
  unfold joinedFacts
  exact and2 (and2 (and2 (and2 (and2 (and2 (and2 (and2 (and2 (and2 (and2 (and2 (and2 (and2 (and2 (and2 (and2 (and2 (and2 (and2 (and2 (and2 (and2 (and2 (and2 (and2 (and2 (and2 (and2 (and2 (and2 plumberNews_j0 plumberNews_j1) plumberNews_j2) plumberNews_j3) plumberNews_j4) plumberNews_j5) plumberNews_j6) plumberNews_j7) plumberNews_j8) plumberNews_j9) plumberNews_j10) plumberNews_j11) plumberNews_j12) plumberNews_j13) plumberNews_j14) plumberNews_j15) plumberNews_j16) plumberNews_j17) plumberNews_j18) plumberNews_j19) plumberNews_j20) plumberNews_j21) plumberNews_j22) plumberNews_j23) plumberNews_j24) plumberNews_j25) plumberNews_j26) plumberNews_j27) plumberNews_j28) plumberNews_j29) plumberNews_j30) plumberNews_j31
end Go.Proofs.YtfbcbakhdkppoaaGreatDoor
