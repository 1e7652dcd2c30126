/-
  The statement 'AuditArchivesUptoCardSaid': its row holds. No condition beyond the statement's own.
-/
import Derived.Test.YtokncnjohiobcaaGreatDoorCAuditArchivesUptoAXA
import Derived.Test.YtokncnjohiobcaaGreatDoorCAuditArchivesUptoJ
import Derived.ProofKit
import Derived.SevenTiedAt
namespace Go.Proofs.YtokncnjohiobcaaGreatDoor
open Go.ChangeShapes Go.WideShapes Go.ChangeAt Go.RowKit Go.Rt Go.ChangeMaps
theorem auditArchivesUpto_row_holds : Rows.AuditArchivesUptoSaid :=
  OpenClaim.holds_of_cond 3 Tryz.f3 rfl rfl rfl rfl rfl rfl rfl ⟨rfl, rfl, rfl, rfl, rfl⟩ rfl rfl rfl rfl rfl (by kernel_rfl) Tryz.func3 auditArchivesUpto_closed
    (of_decide_eq_true (by kernel_rfl)) (by unfold Func.isWrapper; first | (rw [if_pos (by decide +kernel)]; kernel_rfl) | (rw [if_neg (by decide +kernel)]; exact ⟨rfl, rfl⟩))
    (fun os started H enc _ F => E3_ os started H enc F)
end Go.Proofs.YtokncnjohiobcaaGreatDoor
