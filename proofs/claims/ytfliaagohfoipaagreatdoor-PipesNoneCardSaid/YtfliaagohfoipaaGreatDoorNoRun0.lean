/-
  What is proved here: some runs of plugboardlaw23.PipesNone return true.
  Conditions: the table of the pipes' package is laid.
-/
import Derived.Test.YtfliaagohfoipaaGreatDoorNoDefs
namespace Go.Proofs.YtfliaagohfoipaaGreatDoor
open Go.Sy Go.RowKit

set_option maxRecDepth 1000000

theorem no_3_0_0_9 : noRun 3 0 0 9 = true := by kernel_rfl
theorem no_1_2_0_9 : noRun 1 2 0 9 = true := by kernel_rfl
theorem no_3_2_0_4 : noRun 3 2 0 4 = true := by kernel_rfl
theorem no_3_2_1_1 : noRun 3 2 1 1 = true := by kernel_rfl
theorem no_3_2_1_7 : noRun 3 2 1 7 = true := by kernel_rfl
theorem no_1_1_0_9 : noRun 1 1 0 9 = true := by kernel_rfl
theorem no_0_2_0_9 : noRun 0 2 0 9 = true := by kernel_rfl

end Go.Proofs.YtfliaagohfoipaaGreatDoor
