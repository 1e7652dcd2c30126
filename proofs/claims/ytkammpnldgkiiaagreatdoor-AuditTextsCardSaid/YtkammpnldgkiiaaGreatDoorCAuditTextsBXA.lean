/-
  The statement 'AuditTextsCardSaid': its row holds. No condition beyond the statement's own.
-/
import Derived.Test.YtkammpnldgkiiaaGreatDoorCAuditTextsAXA
import Derived.Test.YtkammpnldgkiiaaGreatDoorCAuditTextsJ
import Derived.ProofKit
import Derived.SevenTiedAt
namespace Go.Proofs.YtkammpnldgkiiaaGreatDoor
open Go.ChangeShapes Go.WideShapes Go.ChangeAt Go.RowKit Go.Rt Go.ChangeMaps
theorem auditTexts_row_holds : Rows.AuditTextsSaid :=
  OpenClaim.holds_of_wide 3 Tryz.f3 rfl rfl rfl rfl rfl rfl rfl ⟨rfl, rfl, rfl, rfl, rfl⟩ rfl rfl rfl rfl rfl (by kernel_rfl) Tryz.func3 auditTexts_closed
    (of_decide_eq_true (by kernel_rfl)) (by unfold Func.isWrapper; first | (rw [if_pos (by decide +kernel)]; kernel_rfl) | (rw [if_neg (by decide +kernel)]; exact ⟨rfl, rfl⟩))
    (fun os started H enc _ => auditTexts_lifted os started H enc)
end Go.Proofs.YtkammpnldgkiiaaGreatDoor
