/-
  The statement 'SnapshotPlaysCardSaid': what its card asks of the program. No condition beyond the statement's own.
-/
import Derived.Test.YtebokaoegomboaaGreatDoorRows
import Derived.SevenTiedAt
import Derived.KernelRfl
namespace Go.Proofs.YtebokaoegomboaaGreatDoor
open Go
set_option maxRecDepth 100000
theorem snapshotPlays_main : Tryz.prog.mainIs = some ((true, "f4a8688e6c204fcfc408696fb640ab80144ba37bb0c3205ca73bd984a580c6bf").1, (true, "f4a8688e6c204fcfc408696fb640ab80144ba37bb0c3205ca73bd984a580c6bf").2.toList) := by kernel_rfl
theorem snapshotPlays_looks : false = Tryz.prog.looks [] := by kernel_rfl
theorem snapshotPlays_goes : false = Rows.snapshotPlaysRow.goesBy Tryz.prog := by kernel_rfl
end Go.Proofs.YtebokaoegomboaaGreatDoor
