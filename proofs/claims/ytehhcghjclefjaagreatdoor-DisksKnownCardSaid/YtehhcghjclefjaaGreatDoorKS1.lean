/-
  What is proved here: calls of DisksSurvive in plugboardlaw39.DisksKnown return true.
  Conditions: none.
-/
import Derived.Test.YtehhcghjclefjaaGreatDoorKDefs
namespace Go.Proofs.YtehhcghjclefjaaGreatDoor
open Go.Sy Go.RowKit

set_option maxRecDepth 1000000

set_option maxHeartbeats 2000000 in
theorem kS_1 : runS 1 = true := by kernel_rfl
set_option maxHeartbeats 2000000 in
theorem kS_5 : runS 5 = true := by kernel_rfl
set_option maxHeartbeats 2000000 in
theorem kS_9 : runS 9 = true := by kernel_rfl
set_option maxHeartbeats 2000000 in
theorem kS_13 : runS 13 = true := by kernel_rfl
set_option maxHeartbeats 2000000 in
theorem kS_17 : runS 17 = true := by kernel_rfl
set_option maxHeartbeats 2000000 in
theorem kS_21 : runS 21 = true := by kernel_rfl

end Go.Proofs.YtehhcghjclefjaaGreatDoor
