/-
  The statement 'AuditTextsCardSaid': for every input the law returns true, and the input reads as it did. No condition beyond the statement's own.
-/
import Derived.Test.YtkammpnldgkiiaaGreatDoorCards
import Derived.Test.YtkammpnldgkiiaaGreatDoorTie
import Derived.Test.YtkammpnldgkiiaaGreatDoorCAuditTextsM
import Derived.Test.YtkammpnldgkiiaaGreatDoorCAuditTextsBXA
import Derived.ProofKit
import Derived.SevenTiedAt
namespace Go.Proofs.YtkammpnldgkiiaaGreatDoor
open Go.ChangeShapes Go.WideShapes Go.ChangeAt Go.RowKit Go.Rt Go.ChangeMaps
theorem auditTexts_holds : Rows.AuditTextsCardSaid :=
  Claim7.holds_tied_plain_at .later [] [.data, .data, .data, .data, .data, .pinned] true (true, "1bb7eb2cac2960a5f4c7b0355f57bd84788655b4553f35bffffe56ab9505ba37") false
    auditTexts_row_holds (fun _ h => by cases h) (by kernel_rfl) (fun _ h => by cases h) auditTexts_row_tie rfl ⟨rfl, rfl⟩ auditTexts_main rfl
    (fun f fn hf hfn => by
      obtain rfl : f = 3 := Option.some.inj ((show Tryz.prog.funcNamed "filespace/filespacelaw54.AuditTexts" = some 3 by kernel_rfl).symm.trans hf) |>.symm
      obtain rfl : fn = Tryz.f3 := (Option.some.inj (Tryz.func3.symm.trans hfn)).symm
      exact ⟨auditTexts_looks, fun j t ht => by
        rw [Tryz.params3] at ht
        have hm : t ∈ [23] := by simpa using Array.mem_of_getElem? ht
        have hall : ([23].all fun u => !Tryz.prog.wantsStandIn u) = true := by kernel_rfl
        exact (show Tryz.prog.wantsStandIn t = false by simpa using List.all_eq_true.1 hall t hm)⟩)
    auditTexts_goes
end Go.Proofs.YtkammpnldgkiiaaGreatDoor
