/-
  The statement 'SnapshotCallsCardSaid': for every input the law returns true, and the input reads as it did. No condition beyond the statement's own.
-/
import Derived.Test.YtebokaoegomboaaGreatDoorCards
import Derived.Test.YtebokaoegomboaaGreatDoorTie
import Derived.Test.YtebokaoegomboaaGreatDoorCSnapshotCallsM
import Derived.Test.YtebokaoegomboaaGreatDoorCSnapshotCallsBZG
import Derived.ProofKit
import Derived.SevenTiedAt
namespace Go.Proofs.YtebokaoegomboaaGreatDoor
open Go.ChangeShapes Go.WideShapes Go.ChangeAt Go.RowKit Go.Rt Go.ChangeMaps
theorem snapshotCalls_holds : Rows.SnapshotCallsCardSaid :=
  Claim7.holds_tied_plain_at .later [] [.data, .data, .data, .data] true (true, "f4a8688e6c204fcfc408696fb640ab80144ba37bb0c3205ca73bd984a580c6bf") false
    snapshotCalls_row_holds (fun _ h => by cases h) (by kernel_rfl) (fun _ h => by cases h) snapshotCalls_row_tie rfl ⟨rfl, rfl⟩ snapshotCalls_main rfl
    (fun f fn hf hfn => by
      obtain rfl : f = 9 := Option.some.inj ((show Tryz.prog.funcNamed "filespace/filespacelaw17.SnapshotCalls" = some 9 by kernel_rfl).symm.trans hf) |>.symm
      obtain rfl : fn = Tryz.f9 := (Option.some.inj (Tryz.func9.symm.trans hfn)).symm
      exact ⟨snapshotCalls_looks, fun j t ht => by
        rw [Tryz.params9] at ht
        have hm : t ∈ [35, 69] := by simpa using Array.mem_of_getElem? ht
        have hall : ([35, 69].all fun u => !Tryz.prog.wantsStandIn u) = true := by kernel_rfl
        exact (show Tryz.prog.wantsStandIn t = false by simpa using List.all_eq_true.1 hall t hm)⟩)
    snapshotCalls_goes
end Go.Proofs.YtebokaoegomboaaGreatDoor
