/-
  The statement 'PlumbAgainCardSaid': its row holds. No condition beyond the statement's own.
-/
import Derived.Test.YtbdcelleafhelaaGreatDoorCPlumbAgainAWB
import Derived.Test.YtbdcelleafhelaaGreatDoorCPlumbAgainJ
import Derived.ProofKit
import Derived.SevenTiedAt
namespace Go.Proofs.YtbdcelleafhelaaGreatDoor
open Go.ChangeShapes Go.WideShapes Go.ChangeAt Go.RowKit Go.Rt Go.ChangeMaps
theorem plumbAgain_row_holds : Rows.PlumbAgainSaid :=
  OpenClaim.holds_of_wide 8 Tryz.f8 rfl rfl rfl rfl rfl rfl rfl ⟨rfl, rfl, rfl, rfl, rfl⟩ rfl rfl rfl rfl rfl (by kernel_rfl) Tryz.func8 plumbAgain_closed
    (of_decide_eq_true (by kernel_rfl)) (by unfold Func.isWrapper; first | (rw [if_pos (by decide +kernel)]; kernel_rfl) | (rw [if_neg (by decide +kernel)]; exact ⟨rfl, rfl⟩))
    (fun os started H enc _ => plumbAgain_lifted os started H enc)
end Go.Proofs.YtbdcelleafhelaaGreatDoor
