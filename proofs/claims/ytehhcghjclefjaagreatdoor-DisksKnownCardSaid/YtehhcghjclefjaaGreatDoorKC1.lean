/-
  What is proved here: calls of DisksClass in plugboardlaw39.DisksKnown return true.
  Conditions: none.
-/
import Derived.Test.YtehhcghjclefjaaGreatDoorKDefs
namespace Go.Proofs.YtehhcghjclefjaaGreatDoor
open Go.Sy Go.RowKit

set_option maxRecDepth 1000000

set_option maxHeartbeats 2000000 in
theorem kC_1 : runC 1 = true := by kernel_rfl
set_option maxHeartbeats 2000000 in
theorem kC_9 : runC 9 = true := by kernel_rfl
set_option maxHeartbeats 2000000 in
theorem kC_17 : runC 17 = true := by kernel_rfl

end Go.Proofs.YtehhcghjclefjaaGreatDoor
