/-
  The statement 'PlumbRulesCardSaid': the closed facts of its row. No condition beyond the statement's own.
-/
import Derived.Test.YtbdcelleafhelaaGreatDoorRows
import Derived.JoinedOf
import Derived.KernelRfl
namespace Go.Proofs.YtbdcelleafhelaaGreatDoor
open Go
set_option maxRecDepth 100000
theorem plumbRules_j0 : (Rows.plumbRulesRow.wf (OpenSpec.ofChange Rows.plumbRulesSpec)) = true := by kernel_rfl
theorem plumbRules_j1 : (laidOutB Tryz.prog) = true := by kernel_rfl
theorem plumbRules_j2 : (mapsRowed Tryz.prog) = true := by kernel_rfl
theorem plumbRules_j3 : (Tryz.f7.params.all (Tryz.prog.readableRec ·)) = true := by kernel_rfl
theorem plumbRules_j4 : (namedTie Tryz.prog Rows.plumbRulesRow.named Rows.plumbRulesSpec.vars) = true := by kernel_rfl
theorem plumbRules_j5 : ((Rows.plumbRulesRow.stops == [])) = true := by kernel_rfl
theorem plumbRules_j6 : ((Tryz.prog.stops == [])) = true := by kernel_rfl
theorem plumbRules_j7 : ((Rows.plumbRulesRow.knobs == [])) = true := by kernel_rfl
theorem plumbRules_j8 : ((Tryz.prog.stopKnobs == [])) = true := by kernel_rfl
theorem plumbRules_j9 : ((Rows.plumbRulesRow.inPlace == Tryz.prog.inPlace 7)) = true := by kernel_rfl
theorem plumbRules_j10 : ((Rows.plumbRulesRow.unfollowed == Tryz.prog.unfollowed 7)) = true := by kernel_rfl
theorem plumbRules_j11 : ((Rows.plumbRulesRow.recurses == Tryz.prog.recurses 7)) = true := by kernel_rfl
theorem plumbRules_j12 : ((Rows.plumbRulesRow.named == Tryz.prog.varsNamed 7)) = true := by kernel_rfl
theorem plumbRules_j13 : ((Rows.plumbRulesRow.maps == (Tryz.f7.params.toList ++ Rows.plumbRulesSpec.plain.varTypes Tryz.prog).any (Tryz.prog.mapsRec ·))) = true := by kernel_rfl
theorem plumbRules_j14 : ((Rows.plumbRulesRow.ifaces == (Tryz.f7.params.toList ++ Rows.plumbRulesSpec.plain.varTypes Tryz.prog).any (Tryz.prog.ifacesRec ·))) = true := by kernel_rfl
theorem plumbRules_j15 : ((Rows.plumbRulesRow.mapsOut == Tryz.prog.mapsAmong Tryz.f7.resultTypes.toList)) = true := by kernel_rfl
theorem plumbRules_j16 : ((Rows.plumbRulesRow.loops == (Tryz.f7.params.toList ++ Rows.plumbRulesSpec.plain.varTypes Tryz.prog).any (Tryz.prog.loopsFrom ·))) = true := by kernel_rfl
theorem plumbRules_j17 : ((Rows.plumbRulesRow.wideKeys == (Tryz.f7.params.toList ++ Rows.plumbRulesSpec.plain.varTypes Tryz.prog ++ Tryz.f7.resultTypes.toList).any (Tryz.prog.wideKeysFrom ·))) = true := by kernel_rfl
theorem plumbRules_j18 : (Rows.plumbRulesSpec.vars.all (Tryz.prog.varReadable ·)) = true := by kernel_rfl
theorem plumbRules_j19 : (Tryz.f7.resultTypes.all (fun t => Tryz.prog.readableRec t && decide (t < Tryz.prog.types.size))) = true := by kernel_rfl
theorem plumbRules_j20 : ((Rows.plumbRulesRow.ifacesOut == Tryz.f7.resultTypes.toList.any (Tryz.prog.ifacesRec ·))) = true := by kernel_rfl
theorem plumbRules_j21 : ((Rows.plumbRulesRow.loopsOut == Tryz.f7.resultTypes.toList.any (Tryz.prog.loopsFrom ·))) = true := by kernel_rfl
theorem plumbRules_j22 : ((Rows.plumbRulesRow.plainKeys == Tryz.prog.plainKeys)) = true := by kernel_rfl
theorem plumbRules_j23 : (Rows.plumbRulesRow.shortTexts.isNone) = true := by kernel_rfl
theorem plumbRules_j24 : (Tryz.prog.stopsHeard) = true := by kernel_rfl
theorem plumbRules_j25 : (Tryz.prog.mayEnter) = true := by kernel_rfl
theorem plumbRules_j26 : ((Rows.plumbRulesRow.lifted == Tryz.prog.liftsFinal)) = true := by kernel_rfl
theorem plumbRules_j27 : ((Tryz.prog.make == some Rows.plumbRulesRow.make)) = true := by kernel_rfl
theorem plumbRules_j28 : ((Rows.plumbRulesRow.kinds == (if Rows.plumbRulesRow.domain.isEmpty then [] else Tryz.f7.params.toList.map fun t => match Tryz.prog.underlying t with | some (.int k) => some k | _ => none))) = true := by kernel_rfl
theorem plumbRules_j29 : ((Rows.plumbRulesRow.pinned == Rows.plumbRulesRow.pinnedBy)) = true := by kernel_rfl
theorem plumbRules_j30 : ((Rows.plumbRulesRow.veiled == (Tryz.f7.params.toList ++ Rows.plumbRulesSpec.plain.varTypes Tryz.prog ++ Tryz.f7.resultTypes.toList).any (Tryz.prog.veiledRec ·))) = true := by kernel_rfl
theorem plumbRules_j31 : (Rows.plumbRulesRow.veiledFits Tryz.prog Tryz.f7.params.toList (Tryz.f7.params.toList ++ Rows.plumbRulesSpec.plain.varTypes Tryz.prog ++ Tryz.f7.resultTypes.toList)) = true := by kernel_rfl
theorem and2 {a b : Bool} (h1 : a = true) (h2 : b = true) : (a && b) = true := by rw [h1, h2]; rfl
theorem plumbRules_closed : joinedFacts Tryz.prog 7 Tryz.f7 Rows.plumbRulesSpec Rows.plumbRulesRow = true := by
  unfold joinedFacts
  exact and2 (and2 (and2 (and2 (and2 (and2 (and2 (and2 (and2 (and2 (and2 (and2 (and2 (and2 (and2 (and2 (and2 (and2 (and2 (and2 (and2 (and2 (and2 (and2 (and2 (and2 (and2 (and2 (and2 (and2 (and2 plumbRules_j0 plumbRules_j1) plumbRules_j2) plumbRules_j3) plumbRules_j4) plumbRules_j5) plumbRules_j6) plumbRules_j7) plumbRules_j8) plumbRules_j9) plumbRules_j10) plumbRules_j11) plumbRules_j12) plumbRules_j13) plumbRules_j14) plumbRules_j15) plumbRules_j16) plumbRules_j17) plumbRules_j18) plumbRules_j19) plumbRules_j20) plumbRules_j21) plumbRules_j22) plumbRules_j23) plumbRules_j24) plumbRules_j25) plumbRules_j26) plumbRules_j27) plumbRules_j28) plumbRules_j29) plumbRules_j30) plumbRules_j31
end Go.Proofs.YtbdcelleafhelaaGreatDoor
