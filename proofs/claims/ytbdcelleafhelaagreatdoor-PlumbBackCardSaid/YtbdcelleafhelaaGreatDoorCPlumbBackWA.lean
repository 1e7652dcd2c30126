/-
  The statement 'PlumbBackCardSaid': for every input the law returns true, and the input reads as it did. No condition beyond the statement's own.
-/
import Derived.Test.YtbdcelleafhelaaGreatDoorCards
import Derived.Test.YtbdcelleafhelaaGreatDoorTie
import Derived.Test.YtbdcelleafhelaaGreatDoorCPlumbBackM
import Derived.Test.YtbdcelleafhelaaGreatDoorCPlumbBackBWA
import Derived.ProofKit
import Derived.SevenTiedAt
namespace Go.Proofs.YtbdcelleafhelaaGreatDoor
open Go.ChangeShapes Go.WideShapes Go.ChangeAt Go.RowKit Go.Rt Go.ChangeMaps
theorem plumbBack_holds : Rows.PlumbBackCardSaid :=
  Claim7.holds_tied_plain_at .later [] [.data, .data, .data, .data, .pinned] true (true, "3a97c575df94ad6ac2d5697b8222da9f3f0a272848bbf95fc12163048b19db4a") false
    plumbBack_row_holds (fun _ h => by cases h) (by kernel_rfl) (fun _ h => by cases h) plumbBack_row_tie rfl ⟨rfl, rfl⟩ plumbBack_main rfl
    (fun f fn hf hfn => by
      obtain rfl : f = 4 := Option.some.inj ((show Tryz.prog.funcNamed "filespace/filespacelaw23.PlumbBack" = some 4 by kernel_rfl).symm.trans hf) |>.symm
      obtain rfl : fn = Tryz.f4 := (Option.some.inj (Tryz.func4.symm.trans hfn)).symm
      exact ⟨plumbBack_looks, fun j t ht => by
        rw [Tryz.params4] at ht
        have hm : t ∈ [24] := by simpa using Array.mem_of_getElem? ht
        have hall : ([24].all fun u => !Tryz.prog.wantsStandIn u) = true := by kernel_rfl
        exact (show Tryz.prog.wantsStandIn t = false by simpa using List.all_eq_true.1 hall t hm)⟩)
    plumbBack_goes
end Go.Proofs.YtbdcelleafhelaaGreatDoor
