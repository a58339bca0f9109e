/-
  What is proved here: some runs of plugboardlaw23.PipesNone return true.
  Conditions: the table of the pipes' package is laid.
-/
import Derived.Test.YtfliaagohfoipaaGreatDoorNoDefs
namespace Go.Proofs.YtfliaagohfoipaaGreatDoor
open Go.Sy Go.RowKit

set_option maxRecDepth 1000000

theorem no_3_1_1_9 : noRun 3 1 1 9 = true := by kernel_rfl
theorem no_3_2_0_1 : noRun 3 2 0 1 = true := by kernel_rfl
theorem no_3_2_0_3 : noRun 3 2 0 3 = true := by kernel_rfl
theorem no_3_2_1_0 : noRun 3 2 1 0 = true := by kernel_rfl
theorem no_3_2_1_6 : noRun 3 2 1 6 = true := by kernel_rfl
theorem no_2_1_1_9 : noRun 2 1 1 9 = true := by kernel_rfl

end Go.Proofs.YtfliaagohfoipaaGreatDoor
