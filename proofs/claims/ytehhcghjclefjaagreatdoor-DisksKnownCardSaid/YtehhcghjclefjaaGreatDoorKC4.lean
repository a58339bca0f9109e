/-
  What is proved here: calls of DisksClass in plugboardlaw39.DisksKnown return true.
  Conditions: none.
-/
import Derived.Test.YtehhcghjclefjaaGreatDoorKDefs
namespace Go.Proofs.YtehhcghjclefjaaGreatDoor
open Go.Sy Go.RowKit

set_option maxRecDepth 1000000

set_option maxHeartbeats 2000000 in
theorem kC_4 : runC 4 = true := by kernel_rfl
set_option maxHeartbeats 2000000 in
theorem kC_12 : runC 12 = true := by kernel_rfl
set_option maxHeartbeats 2000000 in
theorem kC_20 : runC 20 = true := by kernel_rfl

end Go.Proofs.YtehhcghjclefjaaGreatDoor
