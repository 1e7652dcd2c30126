/-
  The statement 'PlumbSkipsCardSaid': what its card asks of the program. No condition beyond the statement's own.
-/
import Derived.Test.YtbdcelleafhelaaGreatDoorRows
import Derived.SevenTiedAt
import Derived.KernelRfl
namespace Go.Proofs.YtbdcelleafhelaaGreatDoor
open Go
set_option maxRecDepth 100000
theorem plumbSkips_main : Tryz.prog.mainIs = some ((true, "3a97c575df94ad6ac2d5697b8222da9f3f0a272848bbf95fc12163048b19db4a").1, (true, "3a97c575df94ad6ac2d5697b8222da9f3f0a272848bbf95fc12163048b19db4a").2.toList) := by kernel_rfl
theorem plumbSkips_looks : false = Tryz.prog.looks [] := by kernel_rfl
theorem plumbSkips_goes : false = Rows.plumbSkipsRow.goesBy Tryz.prog := by kernel_rfl
end Go.Proofs.YtbdcelleafhelaaGreatDoor
