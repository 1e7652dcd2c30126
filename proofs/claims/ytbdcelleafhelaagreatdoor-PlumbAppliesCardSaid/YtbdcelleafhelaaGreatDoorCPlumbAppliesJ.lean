/-
  The statement 'PlumbAppliesCardSaid': the closed facts of its row. No condition beyond the statement's own.
-/
import Derived.Test.YtbdcelleafhelaaGreatDoorRows
import Derived.JoinedOf
import Derived.KernelRfl
namespace Go.Proofs.YtbdcelleafhelaaGreatDoor
open Go
set_option maxRecDepth 100000
theorem plumbApplies_j0 : (Rows.plumbAppliesRow.wf (OpenSpec.ofChange Rows.plumbAppliesSpec)) = true := by kernel_rfl
theorem plumbApplies_j1 : (laidOutB Tryz.prog) = true := by kernel_rfl
theorem plumbApplies_j2 : (mapsRowed Tryz.prog) = true := by kernel_rfl
theorem plumbApplies_j3 : (Tryz.f5.params.all (Tryz.prog.readableRec ·)) = true := by kernel_rfl
theorem plumbApplies_j4 : (namedTie Tryz.prog Rows.plumbAppliesRow.named Rows.plumbAppliesSpec.vars) = true := by kernel_rfl
theorem plumbApplies_j5 : ((Rows.plumbAppliesRow.stops == [])) = true := by kernel_rfl
theorem plumbApplies_j6 : ((Tryz.prog.stops == [])) = true := by kernel_rfl
theorem plumbApplies_j7 : ((Rows.plumbAppliesRow.knobs == [])) = true := by kernel_rfl
theorem plumbApplies_j8 : ((Tryz.prog.stopKnobs == [])) = true := by kernel_rfl
theorem plumbApplies_j9 : ((Rows.plumbAppliesRow.inPlace == Tryz.prog.inPlace 5)) = true := by kernel_rfl
theorem plumbApplies_j10 : ((Rows.plumbAppliesRow.unfollowed == Tryz.prog.unfollowed 5)) = true := by kernel_rfl
theorem plumbApplies_j11 : ((Rows.plumbAppliesRow.recurses == Tryz.prog.recurses 5)) = true := by kernel_rfl
theorem plumbApplies_j12 : ((Rows.plumbAppliesRow.named == Tryz.prog.varsNamed 5)) = true := by kernel_rfl
theorem plumbApplies_j13 : ((Rows.plumbAppliesRow.maps == (Tryz.f5.params.toList ++ Rows.plumbAppliesSpec.plain.varTypes Tryz.prog).any (Tryz.prog.mapsRec ·))) = true := by kernel_rfl
theorem plumbApplies_j14 : ((Rows.plumbAppliesRow.ifaces == (Tryz.f5.params.toList ++ Rows.plumbAppliesSpec.plain.varTypes Tryz.prog).any (Tryz.prog.ifacesRec ·))) = true := by kernel_rfl
theorem plumbApplies_j15 : ((Rows.plumbAppliesRow.mapsOut == Tryz.prog.mapsAmong Tryz.f5.resultTypes.toList)) = true := by kernel_rfl
theorem plumbApplies_j16 : ((Rows.plumbAppliesRow.loops == (Tryz.f5.params.toList ++ Rows.plumbAppliesSpec.plain.varTypes Tryz.prog).any (Tryz.prog.loopsFrom ·))) = true := by kernel_rfl
theorem plumbApplies_j17 : ((Rows.plumbAppliesRow.wideKeys == (Tryz.f5.params.toList ++ Rows.plumbAppliesSpec.plain.varTypes Tryz.prog ++ Tryz.f5.resultTypes.toList).any (Tryz.prog.wideKeysFrom ·))) = true := by kernel_rfl
theorem plumbApplies_j18 : (Rows.plumbAppliesSpec.vars.all (Tryz.prog.varReadable ·)) = true := by kernel_rfl
theorem plumbApplies_j19 : (Tryz.f5.resultTypes.all (fun t => Tryz.prog.readableRec t && decide (t < Tryz.prog.types.size))) = true := by kernel_rfl
theorem plumbApplies_j20 : ((Rows.plumbAppliesRow.ifacesOut == Tryz.f5.resultTypes.toList.any (Tryz.prog.ifacesRec ·))) = true := by kernel_rfl
theorem plumbApplies_j21 : ((Rows.plumbAppliesRow.loopsOut == Tryz.f5.resultTypes.toList.any (Tryz.prog.loopsFrom ·))) = true := by kernel_rfl
theorem plumbApplies_j22 : ((Rows.plumbAppliesRow.plainKeys == Tryz.prog.plainKeys)) = true := by kernel_rfl
theorem plumbApplies_j23 : (Rows.plumbAppliesRow.shortTexts.isNone) = true := by kernel_rfl
theorem plumbApplies_j24 : (Tryz.prog.stopsHeard) = true := by kernel_rfl
theorem plumbApplies_j25 : (Tryz.prog.mayEnter) = true := by kernel_rfl
theorem plumbApplies_j26 : ((Rows.plumbAppliesRow.lifted == Tryz.prog.liftsFinal)) = true := by kernel_rfl
theorem plumbApplies_j27 : ((Tryz.prog.make == some Rows.plumbAppliesRow.make)) = true := by kernel_rfl
theorem plumbApplies_j28 : ((Rows.plumbAppliesRow.kinds == (if Rows.plumbAppliesRow.domain.isEmpty then [] else Tryz.f5.params.toList.map fun t => match Tryz.prog.underlying t with | some (.int k) => some k | _ => none))) = true := by kernel_rfl
theorem plumbApplies_j29 : ((Rows.plumbAppliesRow.pinned == Rows.plumbAppliesRow.pinnedBy)) = true := by kernel_rfl
theorem plumbApplies_j30 : ((Rows.plumbAppliesRow.veiled == (Tryz.f5.params.toList ++ Rows.plumbAppliesSpec.plain.varTypes Tryz.prog ++ Tryz.f5.resultTypes.toList).any (Tryz.prog.veiledRec ·))) = true := by kernel_rfl
theorem plumbApplies_j31 : (Rows.plumbAppliesRow.veiledFits Tryz.prog Tryz.f5.params.toList (Tryz.f5.params.toList ++ Rows.plumbAppliesSpec.plain.varTypes Tryz.prog ++ Tryz.f5.resultTypes.toList)) = true := by kernel_rfl
theorem and2 {a b : Bool} (h1 : a = true) (h2 : b = true) : (a && b) = true := by rw [h1, h2]; rfl
theorem plumbApplies_closed : joinedFacts Tryz.prog 5 Tryz.f5 Rows.plumbAppliesSpec Rows.plumbAppliesRow = true := by
  unfold joinedFacts
  exact and2 (and2 (and2 (and2 (and2 (and2 (and2 (and2 (and2 (and2 (and2 (and2 (and2 (and2 (and2 (and2 (and2 (and2 (and2 (and2 (and2 (and2 (and2 (and2 (and2 (and2 (and2 (and2 (and2 (and2 (and2 plumbApplies_j0 plumbApplies_j1) plumbApplies_j2) plumbApplies_j3) plumbApplies_j4) plumbApplies_j5) plumbApplies_j6) plumbApplies_j7) plumbApplies_j8) plumbApplies_j9) plumbApplies_j10) plumbApplies_j11) plumbApplies_j12) plumbApplies_j13) plumbApplies_j14) plumbApplies_j15) plumbApplies_j16) plumbApplies_j17) plumbApplies_j18) plumbApplies_j19) plumbApplies_j20) plumbApplies_j21) plumbApplies_j22) plumbApplies_j23) plumbApplies_j24) plumbApplies_j25) plumbApplies_j26) plumbApplies_j27) plumbApplies_j28) plumbApplies_j29) plumbApplies_j30) plumbApplies_j31
end Go.Proofs.YtbdcelleafhelaaGreatDoor
