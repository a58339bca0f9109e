/-
  What is proved here: calls of DisksClass in plugboardlaw39.DisksKnown return true.
  Conditions: none.
-/
import Derived.Test.YtehhcghjclefjaaGreatDoorKDefs
namespace Go.Proofs.YtehhcghjclefjaaGreatDoor
open Go.Sy Go.RowKit

set_option maxRecDepth 1000000

set_option maxHeartbeats 2000000 in
theorem kC_6 : runC 6 = true := by kernel_rfl
set_option maxHeartbeats 2000000 in
theorem kC_14 : runC 14 = true := by kernel_rfl
set_option maxHeartbeats 2000000 in
theorem kC_22 : runC 22 = true := by kernel_rfl

end Go.Proofs.YtehhcghjclefjaaGreatDoor
