/- The few cases of rings and lines, reckoned out. No program in sight. -/
import Derived.Test.YtllcmmpepchieaaRing0
namespace Go.Proofs.Ytllcmmpepchieaa
theorem ok_2 : ((List.range 9).all fun n => okB 2 (n + 1)) = true := by kernel_rfl
theorem ok_3 : ((List.range 5).all fun n => okB 3 (n + 1)) = true := by kernel_rfl
theorem ok_4 : ((List.range 4).all fun n => okB 4 (n + 1)) = true := by kernel_rfl
theorem ok_5 : ((List.range 3).all fun n => okB 5 (n + 1)) = true := by kernel_rfl
theorem ok_6 : ((List.range 3).all fun n => okB 6 (n + 1)) = true := by kernel_rfl
theorem ok_7 : ((List.range 3).all fun n => okB 7 (n + 1)) = true := by kernel_rfl
theorem ok_8 : ((List.range 3).all fun n => okB 8 (n + 1)) = true := by kernel_rfl
end Go.Proofs.Ytllcmmpepchieaa
