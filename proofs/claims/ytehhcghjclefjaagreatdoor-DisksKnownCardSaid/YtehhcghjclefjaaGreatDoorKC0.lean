/-
  What is proved here: calls of DisksClass in plugboardlaw39.DisksKnown return true.
  Conditions: none.
-/
import Derived.Test.YtehhcghjclefjaaGreatDoorKDefs
namespace Go.Proofs.YtehhcghjclefjaaGreatDoor
open Go.Sy Go.RowKit

set_option maxRecDepth 1000000

set_option maxHeartbeats 2000000 in
theorem kC_0 : runC 0 = true := by kernel_rfl
set_option maxHeartbeats 2000000 in
theorem kC_8 : runC 8 = true := by kernel_rfl
set_option maxHeartbeats 2000000 in
theorem kC_16 : runC 16 = true := by kernel_rfl
set_option maxHeartbeats 2000000 in
theorem kC_24 : runC 24 = true := by kernel_rfl

end Go.Proofs.YtehhcghjclefjaaGreatDoor
