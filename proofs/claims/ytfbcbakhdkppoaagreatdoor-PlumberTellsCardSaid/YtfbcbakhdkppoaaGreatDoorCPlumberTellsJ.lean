/-
  The statement 'PlumberTellsCardSaid': the closed facts of its row. No condition beyond the statement's own.
-/
import Derived.Test.YtfbcbakhdkppoaaGreatDoorRows
import Derived.JoinedOf
import Derived.KernelRfl
namespace Go.Proofs.YtfbcbakhdkppoaaGreatDoor
open Go
set_option maxRecDepth 100000
theorem plumberTells_j0 : (Rows.plumberTellsRow.wf (OpenSpec.ofChange Rows.plumberTellsSpec)) = true := by kernel_rfl
theorem plumberTells_j1 : (laidOutB Tryz.prog) = true := by kernel_rfl
theorem plumberTells_j2 : (mapsRowed Tryz.prog) = true := by kernel_rfl
theorem plumberTells_j3 : (Tryz.f8.params.all (Tryz.prog.readableRec ·)) = true := by kernel_rfl
theorem plumberTells_j4 : (namedTie Tryz.prog Rows.plumberTellsRow.named Rows.plumberTellsSpec.vars) = true := by kernel_rfl
theorem plumberTells_j5 : ((Rows.plumberTellsRow.stops == [])) = true := by kernel_rfl
theorem plumberTells_j6 : ((Tryz.prog.stops == [])) = true := by kernel_rfl
theorem plumberTells_j7 : ((Rows.plumberTellsRow.knobs == [])) = true := by kernel_rfl
theorem plumberTells_j8 : ((Tryz.prog.stopKnobs == [])) = true := by kernel_rfl
theorem plumberTells_j9 : ((Rows.plumberTellsRow.inPlace == Tryz.prog.inPlace 8)) = true := by kernel_rfl
theorem plumberTells_j10 : ((Rows.plumberTellsRow.unfollowed == Tryz.prog.unfollowed 8)) = true := by kernel_rfl
theorem plumberTells_j11 : ((Rows.plumberTellsRow.recurses == Tryz.prog.recurses 8)) = true := by kernel_rfl
theorem plumberTells_j12 : ((Rows.plumberTellsRow.named == Tryz.prog.varsNamed 8)) = true := by kernel_rfl
theorem plumberTells_j13 : ((Rows.plumberTellsRow.maps == (Tryz.f8.params.toList ++ Rows.plumberTellsSpec.plain.varTypes Tryz.prog).any (Tryz.prog.mapsRec ·))) = true := by kernel_rfl
theorem plumberTells_j14 : ((Rows.plumberTellsRow.ifaces == (Tryz.f8.params.toList ++ Rows.plumberTellsSpec.plain.varTypes Tryz.prog).any (Tryz.prog.ifacesRec ·))) = true := by kernel_rfl
theorem plumberTells_j15 : ((Rows.plumberTellsRow.mapsOut == Tryz.prog.mapsAmong Tryz.f8.resultTypes.toList)) = true := by kernel_rfl
theorem plumberTells_j16 : ((Rows.plumberTellsRow.loops == (Tryz.f8.params.toList ++ Rows.plumberTellsSpec.plain.varTypes Tryz.prog).any (Tryz.prog.loopsFrom ·))) = true := by kernel_rfl
theorem plumberTells_j17 : ((Rows.plumberTellsRow.wideKeys == (Tryz.f8.params.toList ++ Rows.plumberTellsSpec.plain.varTypes Tryz.prog ++ Tryz.f8.resultTypes.toList).any (Tryz.prog.wideKeysFrom ·))) = true := by kernel_rfl
theorem plumberTells_j18 : (Rows.plumberTellsSpec.vars.all (Tryz.prog.varReadable ·)) = true := by kernel_rfl
theorem plumberTells_j19 : (Tryz.f8.resultTypes.all (fun t => Tryz.prog.readableRec t && decide (t < Tryz.prog.types.size))) = true := by kernel_rfl
theorem plumberTells_j20 : ((Rows.plumberTellsRow.ifacesOut == Tryz.f8.resultTypes.toList.any (Tryz.prog.ifacesRec ·))) = true := by kernel_rfl
theorem plumberTells_j21 : ((Rows.plumberTellsRow.loopsOut == Tryz.f8.resultTypes.toList.any (Tryz.prog.loopsFrom ·))) = true := by kernel_rfl
theorem plumberTells_j22 : ((Rows.plumberTellsRow.plainKeys == Tryz.prog.plainKeys)) = true := by kernel_rfl
theorem plumberTells_j23 : (Rows.plumberTellsRow.shortTexts.isNone) = true := by kernel_rfl
theorem plumberTells_j24 : (Tryz.prog.stopsHeard) = true := by kernel_rfl
theorem plumberTells_j25 : (Tryz.prog.mayEnter) = true := by kernel_rfl
theorem plumberTells_j26 : ((Rows.plumberTellsRow.lifted == Tryz.prog.liftsFinal)) = true := by kernel_rfl
theorem plumberTells_j27 : ((Tryz.prog.make == some Rows.plumberTellsRow.make)) = true := by kernel_rfl
theorem plumberTells_j28 : ((Rows.plumberTellsRow.kinds == (if Rows.plumberTellsRow.domain.isEmpty then [] else Tryz.f8.params.toList.map fun t => match Tryz.prog.underlying t with | some (.int k) => some k | _ => none))) = true := by kernel_rfl
theorem plumberTells_j29 : ((Rows.plumberTellsRow.pinned == Rows.plumberTellsRow.pinnedBy)) = true := by kernel_rfl
theorem plumberTells_j30 : ((Rows.plumberTellsRow.veiled == (Tryz.f8.params.toList ++ Rows.plumberTellsSpec.plain.varTypes Tryz.prog ++ Tryz.f8.resultTypes.toList).any (Tryz.prog.veiledRec ·))) = true := by kernel_rfl
theorem plumberTells_j31 : (Rows.plumberTellsRow.veiledFits Tryz.prog Tryz.f8.params.toList (Tryz.f8.params.toList ++ Rows.plumberTellsSpec.plain.varTypes Tryz.prog ++ Tryz.f8.resultTypes.toList)) = true := by kernel_rfl
theorem and2 {a b : Bool} (h1 : a = true) (h2 : b = true) : (a && b) = true := by rw [h1, h2]; rfl
theorem plumberTells_closed : joinedFacts Tryz.prog 8 Tryz.f8 Rows.plumberTellsSpec Rows.plumberTellsRow = true := by
  unfold joinedFacts
  exact and2 (and2 (and2 (and2 (and2 (and2 (and2 (and2 (and2 (and2 (and2 (and2 (and2 (and2 (and2 (and2 (and2 (and2 (and2 (and2 (and2 (and2 (and2 (and2 (and2 (and2 (and2 (and2 (and2 (and2 (and2 plumberTells_j0 plumberTells_j1) plumberTells_j2) plumberTells_j3) plumberTells_j4) plumberTells_j5) plumberTells_j6) plumberTells_j7) plumberTells_j8) plumberTells_j9) plumberTells_j10) plumberTells_j11) plumberTells_j12) plumberTells_j13) plumberTells_j14) plumberTells_j15) plumberTells_j16) plumberTells_j17) plumberTells_j18) plumberTells_j19) plumberTells_j20) plumberTells_j21) plumberTells_j22) plumberTells_j23) plumberTells_j24) plumberTells_j25) plumberTells_j26) plumberTells_j27) plumberTells_j28) plumberTells_j29) plumberTells_j30) plumberTells_j31
end Go.Proofs.YtfbcbakhdkppoaaGreatDoor
