/-
  Plain laws of the chapters 07 and 11: the small ones. No program in sight.
-/
import Derived.Test.YtglcohgjcjaamaaFns
import Derived.KernelRfl
namespace Go.Proofs.Ytglcohgjcjaamaa
open Go.Rt Go.RowKit

theorem awake11 : law11_awake = some true := by kernel_rfl
theorem awake07 : law07_awake = some true := by kernel_rfl
def noneDir : api_Dir := api_Dir.mk (-1) (-1) (api_Qid.mk (-1) (-1) (-1)) (-1) (-1) (-1) (-1) [] [] [] []
theorem check_none : stat_Check noneDir = some 0 := by kernel_rfl
theorem StatNones_true (x0 : api_Dir) (_ : x0.ok) : law07_StatNones x0 = some true := by
  have hc := check_none
  unfold noneDir at hc
  simp [law07_StatNones, stat_None, ref07_None, stat_Changes, awake07, hc]

end Go.Proofs.Ytglcohgjcjaamaa
