/-
  The statement 'PlumbSkipsCardSaid': for every input the law returns true, and the input reads as it did. No condition beyond the statement's own.
-/
import Derived.Test.YtbdcelleafhelaaGreatDoorCards
import Derived.Test.YtbdcelleafhelaaGreatDoorTie
import Derived.Test.YtbdcelleafhelaaGreatDoorCPlumbSkipsM
import Derived.Test.YtbdcelleafhelaaGreatDoorCPlumbSkipsBWC
import Derived.ProofKit
import Derived.SevenTiedAt
namespace Go.Proofs.YtbdcelleafhelaaGreatDoor
open Go.ChangeShapes Go.WideShapes Go.ChangeAt Go.RowKit Go.Rt Go.ChangeMaps
theorem plumbSkips_holds : Rows.PlumbSkipsCardSaid :=
  Claim7.holds_tied_plain_at .later [] [.data, .data, .data, .data, .pinned] true (true, "3a97c575df94ad6ac2d5697b8222da9f3f0a272848bbf95fc12163048b19db4a") false
    plumbSkips_row_holds (fun _ h => by cases h) (by kernel_rfl) (fun _ h => by cases h) plumbSkips_row_tie rfl ⟨rfl, rfl⟩ plumbSkips_main rfl
    (fun f fn hf hfn => by
      obtain rfl : f = 6 := Option.some.inj ((show Tryz.prog.funcNamed "filespace/filespacelaw23.PlumbSkips" = some 6 by kernel_rfl).symm.trans hf) |>.symm
      obtain rfl : fn = Tryz.f6 := (Option.some.inj (Tryz.func6.symm.trans hfn)).symm
      exact ⟨plumbSkips_looks, fun j t ht => by
        rw [Tryz.params6] at ht
        have hm : t ∈ [35, 24] := by simpa using Array.mem_of_getElem? ht
        have hall : ([35, 24].all fun u => !Tryz.prog.wantsStandIn u) = true := by kernel_rfl
        exact (show Tryz.prog.wantsStandIn t = false by simpa using List.all_eq_true.1 hall t hm)⟩)
    plumbSkips_goes
end Go.Proofs.YtbdcelleafhelaaGreatDoor
