/-
  The statement 'SnapshotExactCardSaid': its row holds. No condition beyond the statement's own.
-/
import Derived.Test.YtebokaoegomboaaGreatDoorCSnapshotExactAZE
import Derived.Test.YtebokaoegomboaaGreatDoorCSnapshotExactJ
import Derived.ProofKit
import Derived.SevenTiedAt
namespace Go.Proofs.YtebokaoegomboaaGreatDoor
open Go.ChangeShapes Go.WideShapes Go.ChangeAt Go.RowKit Go.Rt Go.ChangeMaps
theorem snapshotExact_row_holds : Rows.SnapshotExactSaid :=
  OpenClaim.holds_of_wide 7 Tryz.f7 rfl rfl rfl rfl rfl rfl rfl ⟨rfl, rfl, rfl, rfl, rfl⟩ rfl rfl rfl rfl rfl (by kernel_rfl) Tryz.func7 snapshotExact_closed
    (of_decide_eq_true (by kernel_rfl)) (by unfold Func.isWrapper; first | (rw [if_pos (by decide +kernel)]; kernel_rfl) | (rw [if_neg (by decide +kernel)]; exact ⟨rfl, rfl⟩))
    (fun os started H enc _ => snapshotExact_lifted os started H enc)
end Go.Proofs.YtebokaoegomboaaGreatDoor
