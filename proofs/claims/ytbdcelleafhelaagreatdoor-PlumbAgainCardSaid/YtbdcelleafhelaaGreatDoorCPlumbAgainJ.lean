/-
  The statement 'PlumbAgainCardSaid': the closed facts of its row. No condition beyond the statement's own.
-/
import Derived.Test.YtbdcelleafhelaaGreatDoorRows
import Derived.JoinedOf
import Derived.KernelRfl
namespace Go.Proofs.YtbdcelleafhelaaGreatDoor
open Go
set_option maxRecDepth 100000
theorem plumbAgain_j0 : (Rows.plumbAgainRow.wf (OpenSpec.ofChange Rows.plumbAgainSpec)) = true := by kernel_rfl
theorem plumbAgain_j1 : (laidOutB Tryz.prog) = true := by kernel_rfl
theorem plumbAgain_j2 : (mapsRowed Tryz.prog) = true := by kernel_rfl
theorem plumbAgain_j3 : (Tryz.f8.params.all (Tryz.prog.readableRec ·)) = true := by kernel_rfl
theorem plumbAgain_j4 : (namedTie Tryz.prog Rows.plumbAgainRow.named Rows.plumbAgainSpec.vars) = true := by kernel_rfl
theorem plumbAgain_j5 : ((Rows.plumbAgainRow.stops == [])) = true := by kernel_rfl
theorem plumbAgain_j6 : ((Tryz.prog.stops == [])) = true := by kernel_rfl
theorem plumbAgain_j7 : ((Rows.plumbAgainRow.knobs == [])) = true := by kernel_rfl
theorem plumbAgain_j8 : ((Tryz.prog.stopKnobs == [])) = true := by kernel_rfl
theorem plumbAgain_j9 : ((Rows.plumbAgainRow.inPlace == Tryz.prog.inPlace 8)) = true := by kernel_rfl
theorem plumbAgain_j10 : ((Rows.plumbAgainRow.unfollowed == Tryz.prog.unfollowed 8)) = true := by kernel_rfl
theorem plumbAgain_j11 : ((Rows.plumbAgainRow.recurses == Tryz.prog.recurses 8)) = true := by kernel_rfl
theorem plumbAgain_j12 : ((Rows.plumbAgainRow.named == Tryz.prog.varsNamed 8)) = true := by kernel_rfl
theorem plumbAgain_j13 : ((Rows.plumbAgainRow.maps == (Tryz.f8.params.toList ++ Rows.plumbAgainSpec.plain.varTypes Tryz.prog).any (Tryz.prog.mapsRec ·))) = true := by kernel_rfl
theorem plumbAgain_j14 : ((Rows.plumbAgainRow.ifaces == (Tryz.f8.params.toList ++ Rows.plumbAgainSpec.plain.varTypes Tryz.prog).any (Tryz.prog.ifacesRec ·))) = true := by kernel_rfl
theorem plumbAgain_j15 : ((Rows.plumbAgainRow.mapsOut == Tryz.prog.mapsAmong Tryz.f8.resultTypes.toList)) = true := by kernel_rfl
theorem plumbAgain_j16 : ((Rows.plumbAgainRow.loops == (Tryz.f8.params.toList ++ Rows.plumbAgainSpec.plain.varTypes Tryz.prog).any (Tryz.prog.loopsFrom ·))) = true := by kernel_rfl
theorem plumbAgain_j17 : ((Rows.plumbAgainRow.wideKeys == (Tryz.f8.params.toList ++ Rows.plumbAgainSpec.plain.varTypes Tryz.prog ++ Tryz.f8.resultTypes.toList).any (Tryz.prog.wideKeysFrom ·))) = true := by kernel_rfl
theorem plumbAgain_j18 : (Rows.plumbAgainSpec.vars.all (Tryz.prog.varReadable ·)) = true := by kernel_rfl
theorem plumbAgain_j19 : (Tryz.f8.resultTypes.all (fun t => Tryz.prog.readableRec t && decide (t < Tryz.prog.types.size))) = true := by kernel_rfl
theorem plumbAgain_j20 : ((Rows.plumbAgainRow.ifacesOut == Tryz.f8.resultTypes.toList.any (Tryz.prog.ifacesRec ·))) = true := by kernel_rfl
theorem plumbAgain_j21 : ((Rows.plumbAgainRow.loopsOut == Tryz.f8.resultTypes.toList.any (Tryz.prog.loopsFrom ·))) = true := by kernel_rfl
theorem plumbAgain_j22 : ((Rows.plumbAgainRow.plainKeys == Tryz.prog.plainKeys)) = true := by kernel_rfl
theorem plumbAgain_j23 : (Rows.plumbAgainRow.shortTexts.isNone) = true := by kernel_rfl
theorem plumbAgain_j24 : (Tryz.prog.stopsHeard) = true := by kernel_rfl
theorem plumbAgain_j25 : (Tryz.prog.mayEnter) = true := by kernel_rfl
theorem plumbAgain_j26 : ((Rows.plumbAgainRow.lifted == Tryz.prog.liftsFinal)) = true := by kernel_rfl
theorem plumbAgain_j27 : ((Tryz.prog.make == some Rows.plumbAgainRow.make)) = true := by kernel_rfl
theorem plumbAgain_j28 : ((Rows.plumbAgainRow.kinds == (if Rows.plumbAgainRow.domain.isEmpty then [] else Tryz.f8.params.toList.map fun t => match Tryz.prog.underlying t with | some (.int k) => some k | _ => none))) = true := by kernel_rfl
theorem plumbAgain_j29 : ((Rows.plumbAgainRow.pinned == Rows.plumbAgainRow.pinnedBy)) = true := by kernel_rfl
theorem plumbAgain_j30 : ((Rows.plumbAgainRow.veiled == (Tryz.f8.params.toList ++ Rows.plumbAgainSpec.plain.varTypes Tryz.prog ++ Tryz.f8.resultTypes.toList).any (Tryz.prog.veiledRec ·))) = true := by kernel_rfl
theorem plumbAgain_j31 : (Rows.plumbAgainRow.veiledFits Tryz.prog Tryz.f8.params.toList (Tryz.f8.params.toList ++ Rows.plumbAgainSpec.plain.varTypes Tryz.prog ++ Tryz.f8.resultTypes.toList)) = true := by kernel_rfl
theorem and2 {a b : Bool} (h1 : a = true) (h2 : b = true) : (a && b) = true := by rw [h1, h2]; rfl
theorem plumbAgain_closed : joinedFacts Tryz.prog 8 Tryz.f8 Rows.plumbAgainSpec Rows.plumbAgainRow = true := by
  unfold joinedFacts
  exact and2 (and2 (and2 (and2 (and2 (and2 (and2 (and2 (and2 (and2 (and2 (and2 (and2 (and2 (and2 (and2 (and2 (and2 (and2 (and2 (and2 (and2 (and2 (and2 (and2 (and2 (and2 (and2 (and2 (and2 (and2 plumbAgain_j0 plumbAgain_j1) plumbAgain_j2) plumbAgain_j3) plumbAgain_j4) plumbAgain_j5) plumbAgain_j6) plumbAgain_j7) plumbAgain_j8) plumbAgain_j9) plumbAgain_j10) plumbAgain_j11) plumbAgain_j12) plumbAgain_j13) plumbAgain_j14) plumbAgain_j15) plumbAgain_j16) plumbAgain_j17) plumbAgain_j18) plumbAgain_j19) plumbAgain_j20) plumbAgain_j21) plumbAgain_j22) plumbAgain_j23) plumbAgain_j24) plumbAgain_j25) plumbAgain_j26) plumbAgain_j27) plumbAgain_j28) plumbAgain_j29) plumbAgain_j30) plumbAgain_j31
end Go.Proofs.YtbdcelleafhelaaGreatDoor
