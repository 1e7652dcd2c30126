/-
  The statement 'PlumberCallsCardSaid': for every input the law returns true, and the input reads as it did. No condition beyond the statement's own.
-/
import Derived.Test.YtfbcbakhdkppoaaGreatDoorCards
import Derived.Test.YtfbcbakhdkppoaaGreatDoorTie
import Derived.Test.YtfbcbakhdkppoaaGreatDoorCPlumberCallsM
import Derived.Test.YtfbcbakhdkppoaaGreatDoorCPlumberCallsBWD
import Derived.ProofKit
import Derived.SevenTiedAt
namespace Go.Proofs.YtfbcbakhdkppoaaGreatDoor
open Go.ChangeShapes Go.WideShapes Go.ChangeAt Go.RowKit Go.Rt Go.ChangeMaps
theorem plumberCalls_holds : Rows.PlumberCallsCardSaid :=
  Claim7.holds_tied_plain_at .later [] [.data, .data, .data, .data, .pinned] true (true, "5d6b753b47a90e801d827cc477cb7447621f9a6b1084e2825daf21fe9d3da63f") false
    plumberCalls_row_holds (fun _ h => by cases h) (by kernel_rfl) (fun _ h => by cases h) plumberCalls_row_tie rfl ⟨rfl, rfl⟩ plumberCalls_main rfl
    (fun f fn hf hfn => by
      obtain rfl : f = 6 := Option.some.inj ((show Tryz.prog.funcNamed "filespace/filespacelaw24.PlumberCalls" = some 6 by kernel_rfl).symm.trans hf) |>.symm
      obtain rfl : fn = Tryz.f6 := (Option.some.inj (Tryz.func6.symm.trans hfn)).symm
      exact ⟨plumberCalls_looks, fun j t ht => by
        rw [Tryz.params6] at ht
        have hm : t ∈ [27, 47] := by simpa using Array.mem_of_getElem? ht
        have hall : ([27, 47].all fun u => !Tryz.prog.wantsStandIn u) = true := by kernel_rfl
        exact (show Tryz.prog.wantsStandIn t = false by simpa using List.all_eq_true.1 hall t hm)⟩)
    plumberCalls_goes
end Go.Proofs.YtfbcbakhdkppoaaGreatDoor
