/-
  The statement 'SnapshotPlaysCardSaid': for every input the law returns true, and the input reads as it did. No condition beyond the statement's own.
-/
import Derived.Test.YtebokaoegomboaaGreatDoorCards
import Derived.Test.YtebokaoegomboaaGreatDoorTie
import Derived.Test.YtebokaoegomboaaGreatDoorCSnapshotPlaysM
import Derived.Test.YtebokaoegomboaaGreatDoorCSnapshotPlaysBZH
import Derived.ProofKit
import Derived.SevenTiedAt
namespace Go.Proofs.YtebokaoegomboaaGreatDoor
open Go.ChangeShapes Go.WideShapes Go.ChangeAt Go.RowKit Go.Rt Go.ChangeMaps
theorem snapshotPlays_holds : Rows.SnapshotPlaysCardSaid :=
  Claim7.holds_tied_plain_at .later [] [.data, .data, .data, .data] true (true, "f4a8688e6c204fcfc408696fb640ab80144ba37bb0c3205ca73bd984a580c6bf") false
    snapshotPlays_row_holds (fun _ h => by cases h) (by kernel_rfl) (fun _ h => by cases h) snapshotPlays_row_tie rfl ⟨rfl, rfl⟩ snapshotPlays_main rfl
    (fun f fn hf hfn => by
      obtain rfl : f = 6 := Option.some.inj ((show Tryz.prog.funcNamed "filespace/filespacelaw17.SnapshotPlays" = some 6 by kernel_rfl).symm.trans hf) |>.symm
      obtain rfl : fn = Tryz.f6 := (Option.some.inj (Tryz.func6.symm.trans hfn)).symm
      exact ⟨snapshotPlays_looks, fun j t ht => by
        rw [Tryz.params6] at ht
        have hm : t ∈ [22, 9, 3, 64] := by simpa using Array.mem_of_getElem? ht
        have hall : ([22, 9, 3, 64].all fun u => !Tryz.prog.wantsStandIn u) = true := by kernel_rfl
        exact (show Tryz.prog.wantsStandIn t = false by simpa using List.all_eq_true.1 hall t hm)⟩)
    snapshotPlays_goes
end Go.Proofs.YtebokaoegomboaaGreatDoor
