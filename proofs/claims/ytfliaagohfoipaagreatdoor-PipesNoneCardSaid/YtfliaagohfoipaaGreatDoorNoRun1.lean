/-
  What is proved here: some runs of plugboardlaw23.PipesNone return true.
  Conditions: the table of the pipes' package is laid.
-/
import Derived.Test.YtfliaagohfoipaaGreatDoorNoDefs
namespace Go.Proofs.YtfliaagohfoipaaGreatDoor
open Go.Sy Go.RowKit

set_option maxRecDepth 1000000

theorem no_3_0_1_9 : noRun 3 0 1 9 = true := by kernel_rfl
theorem no_1_2_1_9 : noRun 1 2 1 9 = true := by kernel_rfl
theorem no_3_2_0_5 : noRun 3 2 0 5 = true := by kernel_rfl
theorem no_3_2_1_2 : noRun 3 2 1 2 = true := by kernel_rfl
theorem no_3_2_1_8 : noRun 3 2 1 8 = true := by kernel_rfl
theorem no_1_1_1_9 : noRun 1 1 1 9 = true := by kernel_rfl
theorem no_0_2_1_9 : noRun 0 2 1 9 = true := by kernel_rfl

end Go.Proofs.YtfliaagohfoipaaGreatDoor
