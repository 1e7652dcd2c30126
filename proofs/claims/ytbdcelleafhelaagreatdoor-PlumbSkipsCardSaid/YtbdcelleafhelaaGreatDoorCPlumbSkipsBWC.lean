/-
  The statement 'PlumbSkipsCardSaid': its row holds. No condition beyond the statement's own.
-/
import Derived.Test.YtbdcelleafhelaaGreatDoorCPlumbSkipsAWC
import Derived.Test.YtbdcelleafhelaaGreatDoorCPlumbSkipsJ
import Derived.ProofKit
import Derived.SevenTiedAt
namespace Go.Proofs.YtbdcelleafhelaaGreatDoor
open Go.ChangeShapes Go.WideShapes Go.ChangeAt Go.RowKit Go.Rt Go.ChangeMaps
theorem plumbSkips_row_holds : Rows.PlumbSkipsSaid :=
  OpenClaim.holds_of_wide 6 Tryz.f6 rfl rfl rfl rfl rfl rfl rfl ⟨rfl, rfl, rfl, rfl, rfl⟩ rfl rfl rfl rfl rfl (by kernel_rfl) Tryz.func6 plumbSkips_closed
    (of_decide_eq_true (by kernel_rfl)) (by unfold Func.isWrapper; first | (rw [if_pos (by decide +kernel)]; kernel_rfl) | (rw [if_neg (by decide +kernel)]; exact ⟨rfl, rfl⟩))
    (fun os started H enc _ => plumbSkips_lifted os started H enc)
end Go.Proofs.YtbdcelleafhelaaGreatDoor
