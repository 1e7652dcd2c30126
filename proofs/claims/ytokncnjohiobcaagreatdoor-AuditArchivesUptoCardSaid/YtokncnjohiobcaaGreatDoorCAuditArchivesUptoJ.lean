/-
  The statement 'AuditArchivesUptoCardSaid': the closed facts of its row. No condition beyond the statement's own.
-/
import Derived.Test.YtokncnjohiobcaaGreatDoorRows
import Derived.JoinedOf
import Derived.KernelRfl
namespace Go.Proofs.YtokncnjohiobcaaGreatDoor
open Go
set_option maxRecDepth 100000
theorem auditArchivesUpto_j0 : (Rows.auditArchivesUptoRow.wf (OpenSpec.ofChange (Rows.OpenSpec.upto Rows.auditArchivesSpec).bare)) = true := by kernel_rfl
theorem auditArchivesUpto_j1 : (laidOutB Tryz.prog) = true := by kernel_rfl
theorem auditArchivesUpto_j2 : (mapsRowed Tryz.prog) = true := by kernel_rfl
theorem auditArchivesUpto_j3 : (Tryz.f3.params.all (Tryz.prog.readableRec ·)) = true := by kernel_rfl
theorem auditArchivesUpto_j4 : (namedTie Tryz.prog Rows.auditArchivesUptoRow.named (Rows.OpenSpec.upto Rows.auditArchivesSpec).bare.vars) = true := by kernel_rfl
theorem auditArchivesUpto_j5 : ((Rows.auditArchivesUptoRow.stops == [])) = true := by kernel_rfl
theorem auditArchivesUpto_j6 : ((Tryz.prog.stops == [])) = true := by kernel_rfl
theorem auditArchivesUpto_j7 : ((Rows.auditArchivesUptoRow.knobs == [])) = true := by kernel_rfl
theorem auditArchivesUpto_j8 : ((Tryz.prog.stopKnobs == [])) = true := by kernel_rfl
theorem auditArchivesUpto_j9 : ((Rows.auditArchivesUptoRow.inPlace == Tryz.prog.inPlace 3)) = true := by kernel_rfl
theorem auditArchivesUpto_j10 : ((Rows.auditArchivesUptoRow.unfollowed == Tryz.prog.unfollowed 3)) = true := by kernel_rfl
theorem auditArchivesUpto_j11 : ((Rows.auditArchivesUptoRow.recurses == Tryz.prog.recurses 3)) = true := by kernel_rfl
theorem auditArchivesUpto_j12 : ((Rows.auditArchivesUptoRow.named == Tryz.prog.varsNamed 3)) = true := by kernel_rfl
theorem auditArchivesUpto_j13 : ((Rows.auditArchivesUptoRow.maps == (Tryz.f3.params.toList ++ (Rows.OpenSpec.upto Rows.auditArchivesSpec).bare.plain.varTypes Tryz.prog).any (Tryz.prog.mapsRec ·))) = true := by kernel_rfl
theorem auditArchivesUpto_j14 : ((Rows.auditArchivesUptoRow.ifaces == (Tryz.f3.params.toList ++ (Rows.OpenSpec.upto Rows.auditArchivesSpec).bare.plain.varTypes Tryz.prog).any (Tryz.prog.ifacesRec ·))) = true := by kernel_rfl
theorem auditArchivesUpto_j15 : ((Rows.auditArchivesUptoRow.mapsOut == Tryz.prog.mapsAmong Tryz.f3.resultTypes.toList)) = true := by kernel_rfl
theorem auditArchivesUpto_j16 : ((Rows.auditArchivesUptoRow.loops == (Tryz.f3.params.toList ++ (Rows.OpenSpec.upto Rows.auditArchivesSpec).bare.plain.varTypes Tryz.prog).any (Tryz.prog.loopsFrom ·))) = true := by kernel_rfl
theorem auditArchivesUpto_j17 : ((Rows.auditArchivesUptoRow.wideKeys == (Tryz.f3.params.toList ++ (Rows.OpenSpec.upto Rows.auditArchivesSpec).bare.plain.varTypes Tryz.prog ++ Tryz.f3.resultTypes.toList).any (Tryz.prog.wideKeysFrom ·))) = true := by kernel_rfl
theorem auditArchivesUpto_j18 : ((Rows.OpenSpec.upto Rows.auditArchivesSpec).bare.vars.all (Tryz.prog.varReadable ·)) = true := by kernel_rfl
theorem auditArchivesUpto_j19 : (Tryz.f3.resultTypes.all (fun t => Tryz.prog.readableRec t && decide (t < Tryz.prog.types.size))) = true := by kernel_rfl
theorem auditArchivesUpto_j20 : ((Rows.auditArchivesUptoRow.ifacesOut == Tryz.f3.resultTypes.toList.any (Tryz.prog.ifacesRec ·))) = true := by kernel_rfl
theorem auditArchivesUpto_j21 : ((Rows.auditArchivesUptoRow.loopsOut == Tryz.f3.resultTypes.toList.any (Tryz.prog.loopsFrom ·))) = true := by kernel_rfl
theorem auditArchivesUpto_j22 : ((Rows.auditArchivesUptoRow.plainKeys == Tryz.prog.plainKeys)) = true := by kernel_rfl
theorem auditArchivesUpto_j23 : (Rows.auditArchivesUptoRow.shortTexts.isNone) = true := by kernel_rfl
theorem auditArchivesUpto_j24 : (Tryz.prog.stopsHeard) = true := by kernel_rfl
theorem auditArchivesUpto_j25 : (Tryz.prog.mayEnter) = true := by kernel_rfl
theorem auditArchivesUpto_j26 : ((Rows.auditArchivesUptoRow.lifted == Tryz.prog.liftsFinal)) = true := by kernel_rfl
theorem auditArchivesUpto_j27 : ((Tryz.prog.make == some Rows.auditArchivesUptoRow.make)) = true := by kernel_rfl
theorem auditArchivesUpto_j28 : ((Rows.auditArchivesUptoRow.kinds == (if Rows.auditArchivesUptoRow.domain.isEmpty then [] else Tryz.f3.params.toList.map fun t => match Tryz.prog.underlying t with | some (.int k) => some k | _ => none))) = true := by kernel_rfl
theorem auditArchivesUpto_j29 : ((Rows.auditArchivesUptoRow.pinned == Rows.auditArchivesUptoRow.pinnedBy)) = true := by kernel_rfl
theorem auditArchivesUpto_j30 : ((Rows.auditArchivesUptoRow.veiled == (Tryz.f3.params.toList ++ (Rows.OpenSpec.upto Rows.auditArchivesSpec).bare.plain.varTypes Tryz.prog ++ Tryz.f3.resultTypes.toList).any (Tryz.prog.veiledRec ·))) = true := by kernel_rfl
theorem auditArchivesUpto_j31 : (Rows.auditArchivesUptoRow.veiledFits Tryz.prog Tryz.f3.params.toList (Tryz.f3.params.toList ++ (Rows.OpenSpec.upto Rows.auditArchivesSpec).bare.plain.varTypes Tryz.prog ++ Tryz.f3.resultTypes.toList)) = true := by kernel_rfl
theorem and2 {a b : Bool} (h1 : a = true) (h2 : b = true) : (a && b) = true := by rw [h1, h2]; rfl
theorem auditArchivesUpto_closed : joinedFacts Tryz.prog 3 Tryz.f3 (Rows.OpenSpec.upto Rows.auditArchivesSpec).bare Rows.auditArchivesUptoRow = true := by
  unfold joinedFacts
  exact and2 (and2 (and2 (and2 (and2 (and2 (and2 (and2 (and2 (and2 (and2 (and2 (and2 (and2 (and2 (and2 (and2 (and2 (and2 (and2 (and2 (and2 (and2 (and2 (and2 (and2 (and2 (and2 (and2 (and2 (and2 auditArchivesUpto_j0 auditArchivesUpto_j1) auditArchivesUpto_j2) auditArchivesUpto_j3) auditArchivesUpto_j4) auditArchivesUpto_j5) auditArchivesUpto_j6) auditArchivesUpto_j7) auditArchivesUpto_j8) auditArchivesUpto_j9) auditArchivesUpto_j10) auditArchivesUpto_j11) auditArchivesUpto_j12) auditArchivesUpto_j13) auditArchivesUpto_j14) auditArchivesUpto_j15) auditArchivesUpto_j16) auditArchivesUpto_j17) auditArchivesUpto_j18) auditArchivesUpto_j19) auditArchivesUpto_j20) auditArchivesUpto_j21) auditArchivesUpto_j22) auditArchivesUpto_j23) auditArchivesUpto_j24) auditArchivesUpto_j25) auditArchivesUpto_j26) auditArchivesUpto_j27) auditArchivesUpto_j28) auditArchivesUpto_j29) auditArchivesUpto_j30) auditArchivesUpto_j31
end Go.Proofs.YtokncnjohiobcaaGreatDoor
