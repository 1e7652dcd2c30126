/-
  The statement 'PlumberOrdersCardSaid': its row holds. No condition beyond the statement's own.
-/
import Derived.Test.YtfbcbakhdkppoaaGreatDoorCPlumberOrdersAWC
import Derived.Test.YtfbcbakhdkppoaaGreatDoorCPlumberOrdersJ
import Derived.ProofKit
import Derived.SevenTiedAt
namespace Go.Proofs.YtfbcbakhdkppoaaGreatDoor
open Go.ChangeShapes Go.WideShapes Go.ChangeAt Go.RowKit Go.Rt Go.ChangeMaps
theorem plumberOrders_row_holds : Rows.PlumberOrdersSaid :=
  OpenClaim.holds_of_wide 5 Tryz.f5 rfl rfl rfl rfl rfl rfl rfl ⟨rfl, rfl, rfl, rfl, rfl⟩ rfl rfl rfl rfl rfl (by kernel_rfl) Tryz.func5 plumberOrders_closed
    (of_decide_eq_true (by kernel_rfl)) (by unfold Func.isWrapper; first | (rw [if_pos (by decide +kernel)]; kernel_rfl) | (rw [if_neg (by decide +kernel)]; exact ⟨rfl, rfl⟩))
    (fun os started H enc _ => plumberOrders_lifted os started H enc)
end Go.Proofs.YtfbcbakhdkppoaaGreatDoor
