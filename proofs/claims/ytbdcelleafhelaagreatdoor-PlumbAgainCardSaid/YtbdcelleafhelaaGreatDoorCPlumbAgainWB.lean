/-
  The statement 'PlumbAgainCardSaid': for every input the law returns true, and the input reads as it did. No condition beyond the statement's own.
-/
import Derived.Test.YtbdcelleafhelaaGreatDoorCards
import Derived.Test.YtbdcelleafhelaaGreatDoorTie
import Derived.Test.YtbdcelleafhelaaGreatDoorCPlumbAgainM
import Derived.Test.YtbdcelleafhelaaGreatDoorCPlumbAgainBWB
import Derived.ProofKit
import Derived.SevenTiedAt
namespace Go.Proofs.YtbdcelleafhelaaGreatDoor
open Go.ChangeShapes Go.WideShapes Go.ChangeAt Go.RowKit Go.Rt Go.ChangeMaps
theorem plumbAgain_holds : Rows.PlumbAgainCardSaid :=
  Claim7.holds_tied_plain_at .later [] [.data, .data, .data, .data, .pinned] true (true, "3a97c575df94ad6ac2d5697b8222da9f3f0a272848bbf95fc12163048b19db4a") false
    plumbAgain_row_holds (fun _ h => by cases h) (by kernel_rfl) (fun _ h => by cases h) plumbAgain_row_tie rfl ⟨rfl, rfl⟩ plumbAgain_main rfl
    (fun f fn hf hfn => by
      obtain rfl : f = 8 := Option.some.inj ((show Tryz.prog.funcNamed "filespace/filespacelaw23.PlumbAgain" = some 8 by kernel_rfl).symm.trans hf) |>.symm
      obtain rfl : fn = Tryz.f8 := (Option.some.inj (Tryz.func8.symm.trans hfn)).symm
      exact ⟨plumbAgain_looks, fun j t ht => by
        rw [Tryz.params8] at ht
        have hm : t ∈ [9, 35] := by simpa using Array.mem_of_getElem? ht
        have hall : ([9, 35].all fun u => !Tryz.prog.wantsStandIn u) = true := by kernel_rfl
        exact (show Tryz.prog.wantsStandIn t = false by simpa using List.all_eq_true.1 hall t hm)⟩)
    plumbAgain_goes
end Go.Proofs.YtbdcelleafhelaaGreatDoor
