/-
  What is proved here: some runs of plugboardlaw23.PipesNone return true.
  Conditions: the table of the pipes' package is laid.
-/
import Derived.Test.YtfliaagohfoipaaGreatDoorNoDefs
namespace Go.Proofs.YtfliaagohfoipaaGreatDoor
open Go.Sy Go.RowKit

set_option maxRecDepth 1000000

theorem no_1_0_0_9 : noRun 1 0 0 9 = true := by kernel_rfl
theorem no_2_0_0_9 : noRun 2 0 0 9 = true := by kernel_rfl
theorem no_3_2_0_6 : noRun 3 2 0 6 = true := by kernel_rfl
theorem no_3_2_1_3 : noRun 3 2 1 3 = true := by kernel_rfl
theorem no_2_2_0_9 : noRun 2 2 0 9 = true := by kernel_rfl
theorem no_0_0_0_9 : noRun 0 0 0 9 = true := by kernel_rfl
theorem no_0_1_0_9 : noRun 0 1 0 9 = true := by kernel_rfl

end Go.Proofs.YtfliaagohfoipaaGreatDoor
