/-
  The statement 'PlumberRightCardSaid': for every input the law returns true, and the input reads as it did. No condition beyond the statement's own.
-/
import Derived.Test.YtfbcbakhdkppoaaGreatDoorCards
import Derived.Test.YtfbcbakhdkppoaaGreatDoorTie
import Derived.Test.YtfbcbakhdkppoaaGreatDoorCPlumberRightM
import Derived.Test.YtfbcbakhdkppoaaGreatDoorCPlumberRightBWA
import Derived.ProofKit
import Derived.SevenTiedAt
namespace Go.Proofs.YtfbcbakhdkppoaaGreatDoor
open Go.ChangeShapes Go.WideShapes Go.ChangeAt Go.RowKit Go.Rt Go.ChangeMaps
theorem plumberRight_holds : Rows.PlumberRightCardSaid :=
  Claim7.holds_tied_plain_at .later [] [.data, .data, .data, .data, .pinned] true (true, "5d6b753b47a90e801d827cc477cb7447621f9a6b1084e2825daf21fe9d3da63f") false
    plumberRight_row_holds (fun _ h => by cases h) (by kernel_rfl) (fun _ h => by cases h) plumberRight_row_tie rfl ⟨rfl, rfl⟩ plumberRight_main rfl
    (fun f fn hf hfn => by
      obtain rfl : f = 4 := Option.some.inj ((show Tryz.prog.funcNamed "filespace/filespacelaw24.PlumberRight" = some 4 by kernel_rfl).symm.trans hf) |>.symm
      obtain rfl : fn = Tryz.f4 := (Option.some.inj (Tryz.func4.symm.trans hfn)).symm
      exact ⟨plumberRight_looks, fun j t ht => by
        rw [Tryz.params4] at ht
        have hm : t ∈ [27] := by simpa using Array.mem_of_getElem? ht
        have hall : ([27].all fun u => !Tryz.prog.wantsStandIn u) = true := by kernel_rfl
        exact (show Tryz.prog.wantsStandIn t = false by simpa using List.all_eq_true.1 hall t hm)⟩)
    plumberRight_goes
end Go.Proofs.YtfbcbakhdkppoaaGreatDoor
