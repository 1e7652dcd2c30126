/-
  The statement 'PlumberOrdersCardSaid': the closed facts of its row. No condition beyond the statement's own.
-/
import Derived.Test.YtfbcbakhdkppoaaGreatDoorRows
import Derived.JoinedOf
import Derived.KernelRfl
namespace Go.Proofs.YtfbcbakhdkppoaaGreatDoor
open Go
set_option maxRecDepth 100000
theorem plumberOrders_j0 : (Rows.plumberOrdersRow.wf (OpenSpec.ofChange Rows.plumberOrdersSpec)) = true := by kernel_rfl
theorem plumberOrders_j1 : (laidOutB Tryz.prog) = true := by kernel_rfl
theorem plumberOrders_j2 : (mapsRowed Tryz.prog) = true := by kernel_rfl
theorem plumberOrders_j3 : (Tryz.f5.params.all (Tryz.prog.readableRec ·)) = true := by kernel_rfl
theorem plumberOrders_j4 : (namedTie Tryz.prog Rows.plumberOrdersRow.named Rows.plumberOrdersSpec.vars) = true := by kernel_rfl
theorem plumberOrders_j5 : ((Rows.plumberOrdersRow.stops == [])) = true := by kernel_rfl
theorem plumberOrders_j6 : ((Tryz.prog.stops == [])) = true := by kernel_rfl
theorem plumberOrders_j7 : ((Rows.plumberOrdersRow.knobs == [])) = true := by kernel_rfl
theorem plumberOrders_j8 : ((Tryz.prog.stopKnobs == [])) = true := by kernel_rfl
theorem plumberOrders_j9 : ((Rows.plumberOrdersRow.inPlace == Tryz.prog.inPlace 5)) = true := by kernel_rfl
theorem plumberOrders_j10 : ((Rows.plumberOrdersRow.unfollowed == Tryz.prog.unfollowed 5)) = true := by kernel_rfl
theorem plumberOrders_j11 : ((Rows.plumberOrdersRow.recurses == Tryz.prog.recurses 5)) = true := by kernel_rfl
theorem plumberOrders_j12 : ((Rows.plumberOrdersRow.named == Tryz.prog.varsNamed 5)) = true := by kernel_rfl
theorem plumberOrders_j13 : ((Rows.plumberOrdersRow.maps == (Tryz.f5.params.toList ++ Rows.plumberOrdersSpec.plain.varTypes Tryz.prog).any (Tryz.prog.mapsRec ·))) = true := by kernel_rfl
theorem plumberOrders_j14 : ((Rows.plumberOrdersRow.ifaces == (Tryz.f5.params.toList ++ Rows.plumberOrdersSpec.plain.varTypes Tryz.prog).any (Tryz.prog.ifacesRec ·))) = true := by kernel_rfl
theorem plumberOrders_j15 : ((Rows.plumberOrdersRow.mapsOut == Tryz.prog.mapsAmong Tryz.f5.resultTypes.toList)) = true := by kernel_rfl
theorem plumberOrders_j16 : ((Rows.plumberOrdersRow.loops == (Tryz.f5.params.toList ++ Rows.plumberOrdersSpec.plain.varTypes Tryz.prog).any (Tryz.prog.loopsFrom ·))) = true := by kernel_rfl
theorem plumberOrders_j17 : ((Rows.plumberOrdersRow.wideKeys == (Tryz.f5.params.toList ++ Rows.plumberOrdersSpec.plain.varTypes Tryz.prog ++ Tryz.f5.resultTypes.toList).any (Tryz.prog.wideKeysFrom ·))) = true := by kernel_rfl
theorem plumberOrders_j18 : (Rows.plumberOrdersSpec.vars.all (Tryz.prog.varReadable ·)) = true := by kernel_rfl
theorem plumberOrders_j19 : (Tryz.f5.resultTypes.all (fun t => Tryz.prog.readableRec t && decide (t < Tryz.prog.types.size))) = true := by kernel_rfl
theorem plumberOrders_j20 : ((Rows.plumberOrdersRow.ifacesOut == Tryz.f5.resultTypes.toList.any (Tryz.prog.ifacesRec ·))) = true := by kernel_rfl
theorem plumberOrders_j21 : ((Rows.plumberOrdersRow.loopsOut == Tryz.f5.resultTypes.toList.any (Tryz.prog.loopsFrom ·))) = true := by kernel_rfl
theorem plumberOrders_j22 : ((Rows.plumberOrdersRow.plainKeys == Tryz.prog.plainKeys)) = true := by kernel_rfl
theorem plumberOrders_j23 : (Rows.plumberOrdersRow.shortTexts.isNone) = true := by kernel_rfl
theorem plumberOrders_j24 : (Tryz.prog.stopsHeard) = true := by kernel_rfl
theorem plumberOrders_j25 : (Tryz.prog.mayEnter) = true := by kernel_rfl
theorem plumberOrders_j26 : ((Rows.plumberOrdersRow.lifted == Tryz.prog.liftsFinal)) = true := by kernel_rfl
theorem plumberOrders_j27 : ((Tryz.prog.make == some Rows.plumberOrdersRow.make)) = true := by kernel_rfl
theorem plumberOrders_j28 : ((Rows.plumberOrdersRow.kinds == (if Rows.plumberOrdersRow.domain.isEmpty then [] else Tryz.f5.params.toList.map fun t => match Tryz.prog.underlying t with | some (.int k) => some k | _ => none))) = true := by kernel_rfl
theorem plumberOrders_j29 : ((Rows.plumberOrdersRow.pinned == Rows.plumberOrdersRow.pinnedBy)) = true := by kernel_rfl
theorem plumberOrders_j30 : ((Rows.plumberOrdersRow.veiled == (Tryz.f5.params.toList ++ Rows.plumberOrdersSpec.plain.varTypes Tryz.prog ++ Tryz.f5.resultTypes.toList).any (Tryz.prog.veiledRec ·))) = true := by kernel_rfl
theorem plumberOrders_j31 : (Rows.plumberOrdersRow.veiledFits Tryz.prog Tryz.f5.params.toList (Tryz.f5.params.toList ++ Rows.plumberOrdersSpec.plain.varTypes Tryz.prog ++ Tryz.f5.resultTypes.toList)) = true := by kernel_rfl
theorem and2 {a b : Bool} (h1 : a = true) (h2 : b = true) : (a && b) = true := by rw [h1, h2]; rfl
theorem plumberOrders_closed : joinedFacts Tryz.prog 5 Tryz.f5 Rows.plumberOrdersSpec Rows.plumberOrdersRow = true := by
  unfold joinedFacts
  exact and2 (and2 (and2 (and2 (and2 (and2 (and2 (and2 (and2 (and2 (and2 (and2 (and2 (and2 (and2 (and2 (and2 (and2 (and2 (and2 (and2 (and2 (and2 (and2 (and2 (and2 (and2 (and2 (and2 (and2 (and2 plumberOrders_j0 plumberOrders_j1) plumberOrders_j2) plumberOrders_j3) plumberOrders_j4) plumberOrders_j5) plumberOrders_j6) plumberOrders_j7) plumberOrders_j8) plumberOrders_j9) plumberOrders_j10) plumberOrders_j11) plumberOrders_j12) plumberOrders_j13) plumberOrders_j14) plumberOrders_j15) plumberOrders_j16) plumberOrders_j17) plumberOrders_j18) plumberOrders_j19) plumberOrders_j20) plumberOrders_j21) plumberOrders_j22) plumberOrders_j23) plumberOrders_j24) plumberOrders_j25) plumberOrders_j26) plumberOrders_j27) plumberOrders_j28) plumberOrders_j29) plumberOrders_j30) plumberOrders_j31
end Go.Proofs.YtfbcbakhdkppoaaGreatDoor
