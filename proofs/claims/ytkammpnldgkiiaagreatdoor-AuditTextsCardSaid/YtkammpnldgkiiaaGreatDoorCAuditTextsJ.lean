/-
  The statement 'AuditTextsCardSaid': the closed facts of its row. No condition beyond the statement's own.
-/
import Derived.Test.YtkammpnldgkiiaaGreatDoorRows
import Derived.JoinedOf
import Derived.KernelRfl
namespace Go.Proofs.YtkammpnldgkiiaaGreatDoor
open Go
set_option maxRecDepth 100000
theorem auditTexts_j0 : (Rows.auditTextsRow.wf (OpenSpec.ofChange Rows.auditTextsSpec)) = true := by kernel_rfl
theorem auditTexts_j1 : (laidOutB Tryz.prog) = true := by kernel_rfl
theorem auditTexts_j2 : (mapsRowed Tryz.prog) = true := by kernel_rfl
theorem auditTexts_j3 : (Tryz.f3.params.all (Tryz.prog.readableRec ·)) = true := by kernel_rfl
theorem auditTexts_j4 : (namedTie Tryz.prog Rows.auditTextsRow.named Rows.auditTextsSpec.vars) = true := by kernel_rfl
theorem auditTexts_j5 : ((Rows.auditTextsRow.stops == [])) = true := by kernel_rfl
theorem auditTexts_j6 : ((Tryz.prog.stops == [])) = true := by kernel_rfl
theorem auditTexts_j7 : ((Rows.auditTextsRow.knobs == [])) = true := by kernel_rfl
theorem auditTexts_j8 : ((Tryz.prog.stopKnobs == [])) = true := by kernel_rfl
theorem auditTexts_j9 : ((Rows.auditTextsRow.inPlace == Tryz.prog.inPlace 3)) = true := by kernel_rfl
theorem auditTexts_j10 : ((Rows.auditTextsRow.unfollowed == Tryz.prog.unfollowed 3)) = true := by kernel_rfl
theorem auditTexts_j11 : ((Rows.auditTextsRow.recurses == Tryz.prog.recurses 3)) = true := by kernel_rfl
theorem auditTexts_j12 : ((Rows.auditTextsRow.named == Tryz.prog.varsNamed 3)) = true := by kernel_rfl
theorem auditTexts_j13 : ((Rows.auditTextsRow.maps == (Tryz.f3.params.toList ++ Rows.auditTextsSpec.plain.varTypes Tryz.prog).any (Tryz.prog.mapsRec ·))) = true := by kernel_rfl
theorem auditTexts_j14 : ((Rows.auditTextsRow.ifaces == (Tryz.f3.params.toList ++ Rows.auditTextsSpec.plain.varTypes Tryz.prog).any (Tryz.prog.ifacesRec ·))) = true := by kernel_rfl
theorem auditTexts_j15 : ((Rows.auditTextsRow.mapsOut == Tryz.prog.mapsAmong Tryz.f3.resultTypes.toList)) = true := by kernel_rfl
theorem auditTexts_j16 : ((Rows.auditTextsRow.loops == (Tryz.f3.params.toList ++ Rows.auditTextsSpec.plain.varTypes Tryz.prog).any (Tryz.prog.loopsFrom ·))) = true := by kernel_rfl
theorem auditTexts_j17 : ((Rows.auditTextsRow.wideKeys == (Tryz.f3.params.toList ++ Rows.auditTextsSpec.plain.varTypes Tryz.prog ++ Tryz.f3.resultTypes.toList).any (Tryz.prog.wideKeysFrom ·))) = true := by kernel_rfl
theorem auditTexts_j18 : (Rows.auditTextsSpec.vars.all (Tryz.prog.varReadable ·)) = true := by kernel_rfl
theorem auditTexts_j19 : (Tryz.f3.resultTypes.all (fun t => Tryz.prog.readableRec t && decide (t < Tryz.prog.types.size))) = true := by kernel_rfl
theorem auditTexts_j20 : ((Rows.auditTextsRow.ifacesOut == Tryz.f3.resultTypes.toList.any (Tryz.prog.ifacesRec ·))) = true := by kernel_rfl
theorem auditTexts_j21 : ((Rows.auditTextsRow.loopsOut == Tryz.f3.resultTypes.toList.any (Tryz.prog.loopsFrom ·))) = true := by kernel_rfl
theorem auditTexts_j22 : ((Rows.auditTextsRow.plainKeys == Tryz.prog.plainKeys)) = true := by kernel_rfl
theorem auditTexts_j23 : (Rows.auditTextsRow.shortTexts.isNone) = true := by kernel_rfl
theorem auditTexts_j24 : (Tryz.prog.stopsHeard) = true := by kernel_rfl
theorem auditTexts_j25 : (Tryz.prog.mayEnter) = true := by kernel_rfl
theorem auditTexts_j26 : ((Rows.auditTextsRow.lifted == Tryz.prog.liftsFinal)) = true := by kernel_rfl
theorem auditTexts_j27 : ((Tryz.prog.make == some Rows.auditTextsRow.make)) = true := by kernel_rfl
theorem auditTexts_j28 : ((Rows.auditTextsRow.kinds == (if Rows.auditTextsRow.domain.isEmpty then [] else Tryz.f3.params.toList.map fun t => match Tryz.prog.underlying t with | some (.int k) => some k | _ => none))) = true := by kernel_rfl
theorem auditTexts_j29 : ((Rows.auditTextsRow.pinned == Rows.auditTextsRow.pinnedBy)) = true := by kernel_rfl
theorem auditTexts_j30 : ((Rows.auditTextsRow.veiled == (Tryz.f3.params.toList ++ Rows.auditTextsSpec.plain.varTypes Tryz.prog ++ Tryz.f3.resultTypes.toList).any (Tryz.prog.veiledRec ·))) = true := by kernel_rfl
theorem auditTexts_j31 : (Rows.auditTextsRow.veiledFits Tryz.prog Tryz.f3.params.toList (Tryz.f3.params.toList ++ Rows.auditTextsSpec.plain.varTypes Tryz.prog ++ Tryz.f3.resultTypes.toList)) = true := by kernel_rfl
theorem and2 {a b : Bool} (h1 : a = true) (h2 : b = true) : (a && b) = true := by rw [h1, h2]; rfl
theorem auditTexts_closed : joinedFacts Tryz.prog 3 Tryz.f3 Rows.auditTextsSpec Rows.auditTextsRow = true := by
  unfold joinedFacts
  exact and2 (and2 (and2 (and2 (and2 (and2 (and2 (and2 (and2 (and2 (and2 (and2 (and2 (and2 (and2 (and2 (and2 (and2 (and2 (and2 (and2 (and2 (and2 (and2 (and2 (and2 (and2 (and2 (and2 (and2 (and2 auditTexts_j0 auditTexts_j1) auditTexts_j2) auditTexts_j3) auditTexts_j4) auditTexts_j5) auditTexts_j6) auditTexts_j7) auditTexts_j8) auditTexts_j9) auditTexts_j10) auditTexts_j11) auditTexts_j12) auditTexts_j13) auditTexts_j14) auditTexts_j15) auditTexts_j16) auditTexts_j17) auditTexts_j18) auditTexts_j19) auditTexts_j20) auditTexts_j21) auditTexts_j22) auditTexts_j23) auditTexts_j24) auditTexts_j25) auditTexts_j26) auditTexts_j27) auditTexts_j28) auditTexts_j29) auditTexts_j30) auditTexts_j31
end Go.Proofs.YtkammpnldgkiiaaGreatDoor
