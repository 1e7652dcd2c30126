/-
  The statement 'PlumbBackCardSaid': the closed facts of its row. No condition beyond the statement's own.
-/
import Derived.Test.YtbdcelleafhelaaGreatDoorRows
import Derived.JoinedOf
import Derived.KernelRfl
namespace Go.Proofs.YtbdcelleafhelaaGreatDoor
open Go
set_option maxRecDepth 100000
theorem plumbBack_j0 : (Rows.plumbBackRow.wf (OpenSpec.ofChange Rows.plumbBackSpec)) = true := by kernel_rfl
theorem plumbBack_j1 : (laidOutB Tryz.prog) = true := by kernel_rfl
theorem plumbBack_j2 : (mapsRowed Tryz.prog) = true := by kernel_rfl
theorem plumbBack_j3 : (Tryz.f4.params.all (Tryz.prog.readableRec ·)) = true := by kernel_rfl
theorem plumbBack_j4 : (namedTie Tryz.prog Rows.plumbBackRow.named Rows.plumbBackSpec.vars) = true := by kernel_rfl
theorem plumbBack_j5 : ((Rows.plumbBackRow.stops == [])) = true := by kernel_rfl
theorem plumbBack_j6 : ((Tryz.prog.stops == [])) = true := by kernel_rfl
theorem plumbBack_j7 : ((Rows.plumbBackRow.knobs == [])) = true := by kernel_rfl
theorem plumbBack_j8 : ((Tryz.prog.stopKnobs == [])) = true := by kernel_rfl
theorem plumbBack_j9 : ((Rows.plumbBackRow.inPlace == Tryz.prog.inPlace 4)) = true := by kernel_rfl
theorem plumbBack_j10 : ((Rows.plumbBackRow.unfollowed == Tryz.prog.unfollowed 4)) = true := by kernel_rfl
theorem plumbBack_j11 : ((Rows.plumbBackRow.recurses == Tryz.prog.recurses 4)) = true := by kernel_rfl
theorem plumbBack_j12 : ((Rows.plumbBackRow.named == Tryz.prog.varsNamed 4)) = true := by kernel_rfl
theorem plumbBack_j13 : ((Rows.plumbBackRow.maps == (Tryz.f4.params.toList ++ Rows.plumbBackSpec.plain.varTypes Tryz.prog).any (Tryz.prog.mapsRec ·))) = true := by kernel_rfl
theorem plumbBack_j14 : ((Rows.plumbBackRow.ifaces == (Tryz.f4.params.toList ++ Rows.plumbBackSpec.plain.varTypes Tryz.prog).any (Tryz.prog.ifacesRec ·))) = true := by kernel_rfl
theorem plumbBack_j15 : ((Rows.plumbBackRow.mapsOut == Tryz.prog.mapsAmong Tryz.f4.resultTypes.toList)) = true := by kernel_rfl
theorem plumbBack_j16 : ((Rows.plumbBackRow.loops == (Tryz.f4.params.toList ++ Rows.plumbBackSpec.plain.varTypes Tryz.prog).any (Tryz.prog.loopsFrom ·))) = true := by kernel_rfl
theorem plumbBack_j17 : ((Rows.plumbBackRow.wideKeys == (Tryz.f4.params.toList ++ Rows.plumbBackSpec.plain.varTypes Tryz.prog ++ Tryz.f4.resultTypes.toList).any (Tryz.prog.wideKeysFrom ·))) = true := by kernel_rfl
theorem plumbBack_j18 : (Rows.plumbBackSpec.vars.all (Tryz.prog.varReadable ·)) = true := by kernel_rfl
theorem plumbBack_j19 : (Tryz.f4.resultTypes.all (fun t => Tryz.prog.readableRec t && decide (t < Tryz.prog.types.size))) = true := by kernel_rfl
theorem plumbBack_j20 : ((Rows.plumbBackRow.ifacesOut == Tryz.f4.resultTypes.toList.any (Tryz.prog.ifacesRec ·))) = true := by kernel_rfl
theorem plumbBack_j21 : ((Rows.plumbBackRow.loopsOut == Tryz.f4.resultTypes.toList.any (Tryz.prog.loopsFrom ·))) = true := by kernel_rfl
theorem plumbBack_j22 : ((Rows.plumbBackRow.plainKeys == Tryz.prog.plainKeys)) = true := by kernel_rfl
theorem plumbBack_j23 : (Rows.plumbBackRow.shortTexts.isNone) = true := by kernel_rfl
theorem plumbBack_j24 : (Tryz.prog.stopsHeard) = true := by kernel_rfl
theorem plumbBack_j25 : (Tryz.prog.mayEnter) = true := by kernel_rfl
theorem plumbBack_j26 : ((Rows.plumbBackRow.lifted == Tryz.prog.liftsFinal)) = true := by kernel_rfl
theorem plumbBack_j27 : ((Tryz.prog.make == some Rows.plumbBackRow.make)) = true := by kernel_rfl
theorem plumbBack_j28 : ((Rows.plumbBackRow.kinds == (if Rows.plumbBackRow.domain.isEmpty then [] else Tryz.f4.params.toList.map fun t => match Tryz.prog.underlying t with | some (.int k) => some k | _ => none))) = true := by kernel_rfl
theorem plumbBack_j29 : ((Rows.plumbBackRow.pinned == Rows.plumbBackRow.pinnedBy)) = true := by kernel_rfl
theorem plumbBack_j30 : ((Rows.plumbBackRow.veiled == (Tryz.f4.params.toList ++ Rows.plumbBackSpec.plain.varTypes Tryz.prog ++ Tryz.f4.resultTypes.toList).any (Tryz.prog.veiledRec ·))) = true := by kernel_rfl
theorem plumbBack_j31 : (Rows.plumbBackRow.veiledFits Tryz.prog Tryz.f4.params.toList (Tryz.f4.params.toList ++ Rows.plumbBackSpec.plain.varTypes Tryz.prog ++ Tryz.f4.resultTypes.toList)) = true := by kernel_rfl
theorem and2 {a b : Bool} (h1 : a = true) (h2 : b = true) : (a && b) = true := by rw [h1, h2]; rfl
theorem plumbBack_closed : joinedFacts Tryz.prog 4 Tryz.f4 Rows.plumbBackSpec Rows.plumbBackRow = true := by
  unfold joinedFacts
  exact and2 (and2 (and2 (and2 (and2 (and2 (and2 (and2 (and2 (and2 (and2 (and2 (and2 (and2 (and2 (and2 (and2 (and2 (and2 (and2 (and2 (and2 (and2 (and2 (and2 (and2 (and2 (and2 (and2 (and2 (and2 plumbBack_j0 plumbBack_j1) plumbBack_j2) plumbBack_j3) plumbBack_j4) plumbBack_j5) plumbBack_j6) plumbBack_j7) plumbBack_j8) plumbBack_j9) plumbBack_j10) plumbBack_j11) plumbBack_j12) plumbBack_j13) plumbBack_j14) plumbBack_j15) plumbBack_j16) plumbBack_j17) plumbBack_j18) plumbBack_j19) plumbBack_j20) plumbBack_j21) plumbBack_j22) plumbBack_j23) plumbBack_j24) plumbBack_j25) plumbBack_j26) plumbBack_j27) plumbBack_j28) plumbBack_j29) plumbBack_j30) plumbBack_j31
end Go.Proofs.YtbdcelleafhelaaGreatDoor
