/-
  The statement 'PlumberNewsCardSaid': for every input the law returns true, and the input reads as it did. No condition beyond the statement's own.
-/
import Derived.Test.YtfbcbakhdkppoaaGreatDoorCards
import Derived.Test.YtfbcbakhdkppoaaGreatDoorTie
import Derived.Test.YtfbcbakhdkppoaaGreatDoorCPlumberNewsM
import Derived.Test.YtfbcbakhdkppoaaGreatDoorCPlumberNewsBWA
import Derived.ProofKit
import Derived.SevenTiedAt
namespace Go.Proofs.YtfbcbakhdkppoaaGreatDoor
open Go.ChangeShapes Go.WideShapes Go.ChangeAt Go.RowKit Go.Rt Go.ChangeMaps
theorem plumberNews_holds : Rows.PlumberNewsCardSaid :=
  Claim7.holds_tied_plain_at .later [] [.data, .data, .data, .data, .pinned] true (true, "5d6b753b47a90e801d827cc477cb7447621f9a6b1084e2825daf21fe9d3da63f") false
    plumberNews_row_holds (fun _ h => by cases h) (by kernel_rfl) (fun _ h => by cases h) plumberNews_row_tie rfl ⟨rfl, rfl⟩ plumberNews_main rfl
    (fun f fn hf hfn => by
      obtain rfl : f = 3 := Option.some.inj ((show Tryz.prog.funcNamed "filespace/filespacelaw24.PlumberNews" = some 3 by kernel_rfl).symm.trans hf) |>.symm
      obtain rfl : fn = Tryz.f3 := (Option.some.inj (Tryz.func3.symm.trans hfn)).symm
      exact ⟨plumberNews_looks, fun j t ht => by
        rw [Tryz.params3] at ht
        have hm : t ∈ [22] := by simpa using Array.mem_of_getElem? ht
        have hall : ([22].all fun u => !Tryz.prog.wantsStandIn u) = true := by kernel_rfl
        exact (show Tryz.prog.wantsStandIn t = false by simpa using List.all_eq_true.1 hall t hm)⟩)
    plumberNews_goes
end Go.Proofs.YtfbcbakhdkppoaaGreatDoor
