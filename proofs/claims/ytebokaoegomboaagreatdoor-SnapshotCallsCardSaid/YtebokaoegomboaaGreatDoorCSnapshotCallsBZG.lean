/-
  The statement 'SnapshotCallsCardSaid': its row holds. No condition beyond the statement's own.
-/
import Derived.Test.YtebokaoegomboaaGreatDoorCSnapshotCallsAZG
import Derived.Test.YtebokaoegomboaaGreatDoorCSnapshotCallsJ
import Derived.ProofKit
import Derived.SevenTiedAt
namespace Go.Proofs.YtebokaoegomboaaGreatDoor
open Go.ChangeShapes Go.WideShapes Go.ChangeAt Go.RowKit Go.Rt Go.ChangeMaps
theorem snapshotCalls_row_holds : Rows.SnapshotCallsSaid :=
  OpenClaim.holds_of_wide 9 Tryz.f9 rfl rfl rfl rfl rfl rfl rfl ⟨rfl, rfl, rfl, rfl, rfl⟩ rfl rfl rfl rfl rfl (by kernel_rfl) Tryz.func9 snapshotCalls_closed
    (of_decide_eq_true (by kernel_rfl)) (by unfold Func.isWrapper; first | (rw [if_pos (by decide +kernel)]; kernel_rfl) | (rw [if_neg (by decide +kernel)]; exact ⟨rfl, rfl⟩))
    (fun os started H enc _ => snapshotCalls_lifted os started H enc)
end Go.Proofs.YtebokaoegomboaaGreatDoor
