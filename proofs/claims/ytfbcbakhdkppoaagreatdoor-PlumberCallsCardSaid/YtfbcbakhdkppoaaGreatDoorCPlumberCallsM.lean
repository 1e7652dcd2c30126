/-
  The statement 'PlumberCallsCardSaid': what its card asks of the program. No condition beyond the statement's own.
-/
import Derived.Test.YtfbcbakhdkppoaaGreatDoorRows
import Derived.SevenTiedAt
import Derived.KernelRfl
namespace Go.Proofs.YtfbcbakhdkppoaaGreatDoor
open Go
set_option maxRecDepth 100000
theorem plumberCalls_main : Tryz.prog.mainIs = some ((true, "5d6b753b47a90e801d827cc477cb7447621f9a6b1084e2825daf21fe9d3da63f").1, (true, "5d6b753b47a90e801d827cc477cb7447621f9a6b1084e2825daf21fe9d3da63f").2.toList) := by kernel_rfl
theorem plumberCalls_looks : false = Tryz.prog.looks [] := by kernel_rfl
theorem plumberCalls_goes : false = Rows.plumberCallsRow.goesBy Tryz.prog := by kernel_rfl
end Go.Proofs.YtfbcbakhdkppoaaGreatDoor
