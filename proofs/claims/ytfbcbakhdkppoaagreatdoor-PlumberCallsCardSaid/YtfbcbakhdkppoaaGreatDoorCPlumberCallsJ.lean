/-
  The statement 'PlumberCallsCardSaid': the closed facts of its row. No condition beyond the statement's own.
-/
import Derived.Test.YtfbcbakhdkppoaaGreatDoorRows
import Derived.JoinedOf
import Derived.KernelRfl
namespace Go.Proofs.YtfbcbakhdkppoaaGreatDoor
open Go
set_option maxRecDepth 100000
theorem plumberCalls_j0 : (Rows.plumberCallsRow.wf (OpenSpec.ofChange Rows.plumberCallsSpec)) = true := by kernel_rfl
theorem plumberCalls_j1 : (laidOutB Tryz.prog) = true := by kernel_rfl
theorem plumberCalls_j2 : (mapsRowed Tryz.prog) = true := by kernel_rfl
theorem plumberCalls_j3 : (Tryz.f6.params.all (Tryz.prog.readableRec ·)) = true := by kernel_rfl
theorem plumberCalls_j4 : (namedTie Tryz.prog Rows.plumberCallsRow.named Rows.plumberCallsSpec.vars) = true := by kernel_rfl
theorem plumberCalls_j5 : ((Rows.plumberCallsRow.stops == [])) = true := by kernel_rfl
theorem plumberCalls_j6 : ((Tryz.prog.stops == [])) = true := by kernel_rfl
theorem plumberCalls_j7 : ((Rows.plumberCallsRow.knobs == [])) = true := by kernel_rfl
theorem plumberCalls_j8 : ((Tryz.prog.stopKnobs == [])) = true := by kernel_rfl
theorem plumberCalls_j9 : ((Rows.plumberCallsRow.inPlace == Tryz.prog.inPlace 6)) = true := by kernel_rfl
theorem plumberCalls_j10 : ((Rows.plumberCallsRow.unfollowed == Tryz.prog.unfollowed 6)) = true := by kernel_rfl
theorem plumberCalls_j11 : ((Rows.plumberCallsRow.recurses == Tryz.prog.recurses 6)) = true := by kernel_rfl
theorem plumberCalls_j12 : ((Rows.plumberCallsRow.named == Tryz.prog.varsNamed 6)) = true := by kernel_rfl
theorem plumberCalls_j13 : ((Rows.plumberCallsRow.maps == (Tryz.f6.params.toList ++ Rows.plumberCallsSpec.plain.varTypes Tryz.prog).any (Tryz.prog.mapsRec ·))) = true := by kernel_rfl
theorem plumberCalls_j14 : ((Rows.plumberCallsRow.ifaces == (Tryz.f6.params.toList ++ Rows.plumberCallsSpec.plain.varTypes Tryz.prog).any (Tryz.prog.ifacesRec ·))) = true := by kernel_rfl
theorem plumberCalls_j15 : ((Rows.plumberCallsRow.mapsOut == Tryz.prog.mapsAmong Tryz.f6.resultTypes.toList)) = true := by kernel_rfl
theorem plumberCalls_j16 : ((Rows.plumberCallsRow.loops == (Tryz.f6.params.toList ++ Rows.plumberCallsSpec.plain.varTypes Tryz.prog).any (Tryz.prog.loopsFrom ·))) = true := by kernel_rfl
theorem plumberCalls_j17 : ((Rows.plumberCallsRow.wideKeys == (Tryz.f6.params.toList ++ Rows.plumberCallsSpec.plain.varTypes Tryz.prog ++ Tryz.f6.resultTypes.toList).any (Tryz.prog.wideKeysFrom ·))) = true := by kernel_rfl
theorem plumberCalls_j18 : (Rows.plumberCallsSpec.vars.all (Tryz.prog.varReadable ·)) = true := by kernel_rfl
theorem plumberCalls_j19 : (Tryz.f6.resultTypes.all (fun t => Tryz.prog.readableRec t && decide (t < Tryz.prog.types.size))) = true := by kernel_rfl
theorem plumberCalls_j20 : ((Rows.plumberCallsRow.ifacesOut == Tryz.f6.resultTypes.toList.any (Tryz.prog.ifacesRec ·))) = true := by kernel_rfl
theorem plumberCalls_j21 : ((Rows.plumberCallsRow.loopsOut == Tryz.f6.resultTypes.toList.any (Tryz.prog.loopsFrom ·))) = true := by kernel_rfl
theorem plumberCalls_j22 : ((Rows.plumberCallsRow.plainKeys == Tryz.prog.plainKeys)) = true := by kernel_rfl
theorem plumberCalls_j23 : (Rows.plumberCallsRow.shortTexts.isNone) = true := by kernel_rfl
theorem plumberCalls_j24 : (Tryz.prog.stopsHeard) = true := by kernel_rfl
theorem plumberCalls_j25 : (Tryz.prog.mayEnter) = true := by kernel_rfl
theorem plumberCalls_j26 : ((Rows.plumberCallsRow.lifted == Tryz.prog.liftsFinal)) = true := by kernel_rfl
theorem plumberCalls_j27 : ((Tryz.prog.make == some Rows.plumberCallsRow.make)) = true := by kernel_rfl
theorem plumberCalls_j28 : ((Rows.plumberCallsRow.kinds == (if Rows.plumberCallsRow.domain.isEmpty then [] else Tryz.f6.params.toList.map fun t => match Tryz.prog.underlying t with | some (.int k) => some k | _ => none))) = true := by kernel_rfl
theorem plumberCalls_j29 : ((Rows.plumberCallsRow.pinned == Rows.plumberCallsRow.pinnedBy)) = true := by kernel_rfl
theorem plumberCalls_j30 : ((Rows.plumberCallsRow.veiled == (Tryz.f6.params.toList ++ Rows.plumberCallsSpec.plain.varTypes Tryz.prog ++ Tryz.f6.resultTypes.toList).any (Tryz.prog.veiledRec ·))) = true := by kernel_rfl
theorem plumberCalls_j31 : (Rows.plumberCallsRow.veiledFits Tryz.prog Tryz.f6.params.toList (Tryz.f6.params.toList ++ Rows.plumberCallsSpec.plain.varTypes Tryz.prog ++ Tryz.f6.resultTypes.toList)) = true := by kernel_rfl
theorem and2 {a b : Bool} (h1 : a = true) (h2 : b = true) : (a && b) = true := by rw [h1, h2]; rfl
theorem plumberCalls_closed : joinedFacts Tryz.prog 6 Tryz.f6 Rows.plumberCallsSpec Rows.plumberCallsRow = true := by
  unfold joinedFacts
  exact and2 (and2 (and2 (and2 (and2 (and2 (and2 (and2 (and2 (and2 (and2 (and2 (and2 (and2 (and2 (and2 (and2 (and2 (and2 (and2 (and2 (and2 (and2 (and2 (and2 (and2 (and2 (and2 (and2 (and2 (and2 plumberCalls_j0 plumberCalls_j1) plumberCalls_j2) plumberCalls_j3) plumberCalls_j4) plumberCalls_j5) plumberCalls_j6) plumberCalls_j7) plumberCalls_j8) plumberCalls_j9) plumberCalls_j10) plumberCalls_j11) plumberCalls_j12) plumberCalls_j13) plumberCalls_j14) plumberCalls_j15) plumberCalls_j16) plumberCalls_j17) plumberCalls_j18) plumberCalls_j19) plumberCalls_j20) plumberCalls_j21) plumberCalls_j22) plumberCalls_j23) plumberCalls_j24) plumberCalls_j25) plumberCalls_j26) plumberCalls_j27) plumberCalls_j28) plumberCalls_j29) plumberCalls_j30) plumberCalls_j31
end Go.Proofs.YtfbcbakhdkppoaaGreatDoor
