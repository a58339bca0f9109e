/-
  What is proved here: some runs of plugboardlaw23.PipesNone return true.
  Conditions: the table of the pipes' package is laid.
-/
import Derived.Test.YtfliaagohfoipaaGreatDoorNoDefs
namespace Go.Proofs.YtfliaagohfoipaaGreatDoor
open Go.Sy Go.RowKit

set_option maxRecDepth 1000000

theorem no_3_1_0_9 : noRun 3 1 0 9 = true := by kernel_rfl
theorem no_3_2_0_0 : noRun 3 2 0 0 = true := by kernel_rfl
theorem no_3_2_0_2 : noRun 3 2 0 2 = true := by kernel_rfl
theorem no_3_2_0_8 : noRun 3 2 0 8 = true := by kernel_rfl
theorem no_3_2_1_5 : noRun 3 2 1 5 = true := by kernel_rfl
theorem no_2_1_0_9 : noRun 2 1 0 9 = true := by kernel_rfl

end Go.Proofs.YtfliaagohfoipaaGreatDoor
