/-
  What is proved here: calls of DisksClass in plugboardlaw39.DisksKnown return true.
  Conditions: none.
-/
import Derived.Test.YtehhcghjclefjaaGreatDoorKDefs
namespace Go.Proofs.YtehhcghjclefjaaGreatDoor
open Go.Sy Go.RowKit

set_option maxRecDepth 1000000

set_option maxHeartbeats 2000000 in
theorem kC_3 : runC 3 = true := by kernel_rfl
set_option maxHeartbeats 2000000 in
theorem kC_11 : runC 11 = true := by kernel_rfl
set_option maxHeartbeats 2000000 in
theorem kC_19 : runC 19 = true := by kernel_rfl

end Go.Proofs.YtehhcghjclefjaaGreatDoor
