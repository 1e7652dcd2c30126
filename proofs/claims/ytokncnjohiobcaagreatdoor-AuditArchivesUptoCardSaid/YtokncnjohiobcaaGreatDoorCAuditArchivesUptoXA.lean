/-
  The statement 'AuditArchivesUptoCardSaid': for every input the law returns true, and the input reads as it did. No condition beyond the statement's own.
-/
import Derived.Test.YtokncnjohiobcaaGreatDoorCards
import Derived.Test.YtokncnjohiobcaaGreatDoorTie
import Derived.Test.YtokncnjohiobcaaGreatDoorCAuditArchivesUptoM
import Derived.Test.YtokncnjohiobcaaGreatDoorCAuditArchivesUptoBXA
import Derived.ProofKit
import Derived.SevenTiedAt
namespace Go.Proofs.YtokncnjohiobcaaGreatDoor
open Go.ChangeShapes Go.WideShapes Go.ChangeAt Go.RowKit Go.Rt Go.ChangeMaps
theorem auditArchivesUpto_holds : Rows.AuditArchivesUptoCardSaid :=
  Claim7.holds_tied_plain_at .later [] [.data, .data, .data, .data, .data, .pinned] true (true, "7e6eaadb7e4f2646f2b3a5db398039cef5ceb8a18d606bab379f5e5b4ede2d9c") false
    auditArchivesUpto_row_holds (fun _ h => by cases h) (by kernel_rfl) (fun _ h => by cases h) auditArchivesUpto_row_tie rfl ⟨rfl, rfl⟩ auditArchivesUpto_main rfl
    (fun f fn hf hfn => by
      obtain rfl : f = 3 := Option.some.inj ((show Tryz.prog.funcNamed "filespace/filespacelaw54.AuditArchives" = some 3 by kernel_rfl).symm.trans hf) |>.symm
      obtain rfl : fn = Tryz.f3 := (Option.some.inj (Tryz.func3.symm.trans hfn)).symm
      exact ⟨auditArchivesUpto_looks, fun j t ht => by
        rw [Tryz.params3] at ht
        have hm : t ∈ [40, 3, 3, 43] := by simpa using Array.mem_of_getElem? ht
        have hall : ([40, 3, 3, 43].all fun u => !Tryz.prog.wantsStandIn u) = true := by kernel_rfl
        exact (show Tryz.prog.wantsStandIn t = false by simpa using List.all_eq_true.1 hall t hm)⟩)
    auditArchivesUpto_goes
end Go.Proofs.YtokncnjohiobcaaGreatDoor
