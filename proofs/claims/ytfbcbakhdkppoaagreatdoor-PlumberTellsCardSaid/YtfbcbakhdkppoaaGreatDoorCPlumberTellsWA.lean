/-
  The statement 'PlumberTellsCardSaid': for every input the law returns true, and the input reads as it did. No condition beyond the statement's own.
-/
import Derived.Test.YtfbcbakhdkppoaaGreatDoorCards
import Derived.Test.YtfbcbakhdkppoaaGreatDoorTie
import Derived.Test.YtfbcbakhdkppoaaGreatDoorCPlumberTellsM
import Derived.Test.YtfbcbakhdkppoaaGreatDoorCPlumberTellsBWA
import Derived.ProofKit
import Derived.SevenTiedAt
namespace Go.Proofs.YtfbcbakhdkppoaaGreatDoor
open Go.ChangeShapes Go.WideShapes Go.ChangeAt Go.RowKit Go.Rt Go.ChangeMaps
theorem plumberTells_holds : Rows.PlumberTellsCardSaid :=
  Claim7.holds_tied_plain_at .later [] [.data, .data, .data, .data, .pinned] true (true, "5d6b753b47a90e801d827cc477cb7447621f9a6b1084e2825daf21fe9d3da63f") false
    plumberTells_row_holds (fun _ h => by cases h) (by kernel_rfl) (fun _ h => by cases h) plumberTells_row_tie rfl ⟨rfl, rfl⟩ plumberTells_main rfl
    (fun f fn hf hfn => by
      obtain rfl : f = 8 := Option.some.inj ((show Tryz.prog.funcNamed "filespace/filespacelaw24.PlumberTells" = some 8 by kernel_rfl).symm.trans hf) |>.symm
      obtain rfl : fn = Tryz.f8 := (Option.some.inj (Tryz.func8.symm.trans hfn)).symm
      exact ⟨plumberTells_looks, fun j t ht => by
        rw [Tryz.params8] at ht
        have hm : t ∈ [27, 3, 9] := by simpa using Array.mem_of_getElem? ht
        have hall : ([27, 3, 9].all fun u => !Tryz.prog.wantsStandIn u) = true := by kernel_rfl
        exact (show Tryz.prog.wantsStandIn t = false by simpa using List.all_eq_true.1 hall t hm)⟩)
    plumberTells_goes
end Go.Proofs.YtfbcbakhdkppoaaGreatDoor
