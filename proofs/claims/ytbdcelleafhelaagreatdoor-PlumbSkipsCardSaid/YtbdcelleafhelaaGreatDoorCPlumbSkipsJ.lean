/-
  The statement 'PlumbSkipsCardSaid': the closed facts of its row. No condition beyond the statement's own.
-/
import Derived.Test.YtbdcelleafhelaaGreatDoorRows
import Derived.JoinedOf
import Derived.KernelRfl
namespace Go.Proofs.YtbdcelleafhelaaGreatDoor
open Go
set_option maxRecDepth 100000
theorem plumbSkips_j0 : (Rows.plumbSkipsRow.wf (OpenSpec.ofChange Rows.plumbSkipsSpec)) = true := by kernel_rfl
theorem plumbSkips_j1 : (laidOutB Tryz.prog) = true := by kernel_rfl
theorem plumbSkips_j2 : (mapsRowed Tryz.prog) = true := by kernel_rfl
theorem plumbSkips_j3 : (Tryz.f6.params.all (Tryz.prog.readableRec ·)) = true := by kernel_rfl
theorem plumbSkips_j4 : (namedTie Tryz.prog Rows.plumbSkipsRow.named Rows.plumbSkipsSpec.vars) = true := by kernel_rfl
theorem plumbSkips_j5 : ((Rows.plumbSkipsRow.stops == [])) = true := by kernel_rfl
theorem plumbSkips_j6 : ((Tryz.prog.stops == [])) = true := by kernel_rfl
theorem plumbSkips_j7 : ((Rows.plumbSkipsRow.knobs == [])) = true := by kernel_rfl
theorem plumbSkips_j8 : ((Tryz.prog.stopKnobs == [])) = true := by kernel_rfl
theorem plumbSkips_j9 : ((Rows.plumbSkipsRow.inPlace == Tryz.prog.inPlace 6)) = true := by kernel_rfl
theorem plumbSkips_j10 : ((Rows.plumbSkipsRow.unfollowed == Tryz.prog.unfollowed 6)) = true := by kernel_rfl
theorem plumbSkips_j11 : ((Rows.plumbSkipsRow.recurses == Tryz.prog.recurses 6)) = true := by kernel_rfl
theorem plumbSkips_j12 : ((Rows.plumbSkipsRow.named == Tryz.prog.varsNamed 6)) = true := by kernel_rfl
theorem plumbSkips_j13 : ((Rows.plumbSkipsRow.maps == (Tryz.f6.params.toList ++ Rows.plumbSkipsSpec.plain.varTypes Tryz.prog).any (Tryz.prog.mapsRec ·))) = true := by kernel_rfl
theorem plumbSkips_j14 : ((Rows.plumbSkipsRow.ifaces == (Tryz.f6.params.toList ++ Rows.plumbSkipsSpec.plain.varTypes Tryz.prog).any (Tryz.prog.ifacesRec ·))) = true := by kernel_rfl
theorem plumbSkips_j15 : ((Rows.plumbSkipsRow.mapsOut == Tryz.prog.mapsAmong Tryz.f6.resultTypes.toList)) = true := by kernel_rfl
theorem plumbSkips_j16 : ((Rows.plumbSkipsRow.loops == (Tryz.f6.params.toList ++ Rows.plumbSkipsSpec.plain.varTypes Tryz.prog).any (Tryz.prog.loopsFrom ·))) = true := by kernel_rfl
theorem plumbSkips_j17 : ((Rows.plumbSkipsRow.wideKeys == (Tryz.f6.params.toList ++ Rows.plumbSkipsSpec.plain.varTypes Tryz.prog ++ Tryz.f6.resultTypes.toList).any (Tryz.prog.wideKeysFrom ·))) = true := by kernel_rfl
theorem plumbSkips_j18 : (Rows.plumbSkipsSpec.vars.all (Tryz.prog.varReadable ·)) = true := by kernel_rfl
theorem plumbSkips_j19 : (Tryz.f6.resultTypes.all (fun t => Tryz.prog.readableRec t && decide (t < Tryz.prog.types.size))) = true := by kernel_rfl
theorem plumbSkips_j20 : ((Rows.plumbSkipsRow.ifacesOut == Tryz.f6.resultTypes.toList.any (Tryz.prog.ifacesRec ·))) = true := by kernel_rfl
theorem plumbSkips_j21 : ((Rows.plumbSkipsRow.loopsOut == Tryz.f6.resultTypes.toList.any (Tryz.prog.loopsFrom ·))) = true := by kernel_rfl
theorem plumbSkips_j22 : ((Rows.plumbSkipsRow.plainKeys == Tryz.prog.plainKeys)) = true := by kernel_rfl
theorem plumbSkips_j23 : (Rows.plumbSkipsRow.shortTexts.isNone) = true := by kernel_rfl
theorem plumbSkips_j24 : (Tryz.prog.stopsHeard) = true := by kernel_rfl
theorem plumbSkips_j25 : (Tryz.prog.mayEnter) = true := by kernel_rfl
theorem plumbSkips_j26 : ((Rows.plumbSkipsRow.lifted == Tryz.prog.liftsFinal)) = true := by kernel_rfl
theorem plumbSkips_j27 : ((Tryz.prog.make == some Rows.plumbSkipsRow.make)) = true := by kernel_rfl
theorem plumbSkips_j28 : ((Rows.plumbSkipsRow.kinds == (if Rows.plumbSkipsRow.domain.isEmpty then [] else Tryz.f6.params.toList.map fun t => match Tryz.prog.underlying t with | some (.int k) => some k | _ => none))) = true := by kernel_rfl
theorem plumbSkips_j29 : ((Rows.plumbSkipsRow.pinned == Rows.plumbSkipsRow.pinnedBy)) = true := by kernel_rfl
theorem plumbSkips_j30 : ((Rows.plumbSkipsRow.veiled == (Tryz.f6.params.toList ++ Rows.plumbSkipsSpec.plain.varTypes Tryz.prog ++ Tryz.f6.resultTypes.toList).any (Tryz.prog.veiledRec ·))) = true := by kernel_rfl
theorem plumbSkips_j31 : (Rows.plumbSkipsRow.veiledFits Tryz.prog Tryz.f6.params.toList (Tryz.f6.params.toList ++ Rows.plumbSkipsSpec.plain.varTypes Tryz.prog ++ Tryz.f6.resultTypes.toList)) = true := by kernel_rfl
theorem and2 {a b : Bool} (h1 : a = true) (h2 : b = true) : (a && b) = true := by rw [h1, h2]; rfl
theorem plumbSkips_closed : joinedFacts Tryz.prog 6 Tryz.f6 Rows.plumbSkipsSpec Rows.plumbSkipsRow = true := by
  unfold joinedFacts
  exact and2 (and2 (and2 (and2 (and2 (and2 (and2 (and2 (and2 (and2 (and2 (and2 (and2 (and2 (and2 (and2 (and2 (and2 (and2 (and2 (and2 (and2 (and2 (and2 (and2 (and2 (and2 (and2 (and2 (and2 (and2 plumbSkips_j0 plumbSkips_j1) plumbSkips_j2) plumbSkips_j3) plumbSkips_j4) plumbSkips_j5) plumbSkips_j6) plumbSkips_j7) plumbSkips_j8) plumbSkips_j9) plumbSkips_j10) plumbSkips_j11) plumbSkips_j12) plumbSkips_j13) plumbSkips_j14) plumbSkips_j15) plumbSkips_j16) plumbSkips_j17) plumbSkips_j18) plumbSkips_j19) plumbSkips_j20) plumbSkips_j21) plumbSkips_j22) plumbSkips_j23) plumbSkips_j24) plumbSkips_j25) plumbSkips_j26) plumbSkips_j27) plumbSkips_j28) plumbSkips_j29) plumbSkips_j30) plumbSkips_j31
end Go.Proofs.YtbdcelleafhelaaGreatDoor
