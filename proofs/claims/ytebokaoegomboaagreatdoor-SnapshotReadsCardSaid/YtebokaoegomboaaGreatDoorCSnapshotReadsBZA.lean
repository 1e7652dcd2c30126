/-
  The statement 'SnapshotReadsCardSaid': its row holds. No condition beyond the statement's own.
-/
import Derived.Test.YtebokaoegomboaaGreatDoorCSnapshotReadsAZA
import Derived.Test.YtebokaoegomboaaGreatDoorCSnapshotReadsJ
import Derived.ProofKit
import Derived.SevenTiedAt
namespace Go.Proofs.YtebokaoegomboaaGreatDoor
open Go.ChangeShapes Go.WideShapes Go.ChangeAt Go.RowKit Go.Rt Go.ChangeMaps
theorem snapshotReads_row_holds : Rows.SnapshotReadsSaid :=
  OpenClaim.holds_of_wide 5 Tryz.f5 rfl rfl rfl rfl rfl rfl rfl ⟨rfl, rfl, rfl, rfl, rfl⟩ rfl rfl rfl rfl rfl (by kernel_rfl) Tryz.func5 snapshotReads_closed
    (of_decide_eq_true (by kernel_rfl)) (by unfold Func.isWrapper; first | (rw [if_pos (by decide +kernel)]; kernel_rfl) | (rw [if_neg (by decide +kernel)]; exact ⟨rfl, rfl⟩))
    (fun os started H enc _ => snapshotReads_lifted os started H enc)
end Go.Proofs.YtebokaoegomboaaGreatDoor
