/-
  The statement 'PlumberOrdersCardSaid': for every input the law returns true, and the input reads as it did. No condition beyond the statement's own.
-/
import Derived.Test.YtfbcbakhdkppoaaGreatDoorCards
import Derived.Test.YtfbcbakhdkppoaaGreatDoorTie
import Derived.Test.YtfbcbakhdkppoaaGreatDoorCPlumberOrdersM
import Derived.Test.YtfbcbakhdkppoaaGreatDoorCPlumberOrdersBWC
import Derived.ProofKit
import Derived.SevenTiedAt
namespace Go.Proofs.YtfbcbakhdkppoaaGreatDoor
open Go.ChangeShapes Go.WideShapes Go.ChangeAt Go.RowKit Go.Rt Go.ChangeMaps
theorem plumberOrders_holds : Rows.PlumberOrdersCardSaid :=
  Claim7.holds_tied_plain_at .later [] [.data, .data, .data, .data, .pinned] true (true, "5d6b753b47a90e801d827cc477cb7447621f9a6b1084e2825daf21fe9d3da63f") false
    plumberOrders_row_holds (fun _ h => by cases h) (by kernel_rfl) (fun _ h => by cases h) plumberOrders_row_tie rfl ⟨rfl, rfl⟩ plumberOrders_main rfl
    (fun f fn hf hfn => by
      obtain rfl : f = 5 := Option.some.inj ((show Tryz.prog.funcNamed "filespace/filespacelaw24.PlumberOrders" = some 5 by kernel_rfl).symm.trans hf) |>.symm
      obtain rfl : fn = Tryz.f5 := (Option.some.inj (Tryz.func5.symm.trans hfn)).symm
      exact ⟨plumberOrders_looks, fun j t ht => by
        rw [Tryz.params5] at ht
        have hm : t ∈ [34] := by simpa using Array.mem_of_getElem? ht
        have hall : ([34].all fun u => !Tryz.prog.wantsStandIn u) = true := by kernel_rfl
        exact (show Tryz.prog.wantsStandIn t = false by simpa using List.all_eq_true.1 hall t hm)⟩)
    plumberOrders_goes
end Go.Proofs.YtfbcbakhdkppoaaGreatDoor
