/-
  What is proved here: calls of DisksSurvive in plugboardlaw39.DisksKnown return true.
  Conditions: none.
-/
import Derived.Test.YtehhcghjclefjaaGreatDoorKDefs
namespace Go.Proofs.YtehhcghjclefjaaGreatDoor
open Go.Sy Go.RowKit

set_option maxRecDepth 1000000

set_option maxHeartbeats 2000000 in
theorem kS_3 : runS 3 = true := by kernel_rfl
set_option maxHeartbeats 2000000 in
theorem kS_7 : runS 7 = true := by kernel_rfl
set_option maxHeartbeats 2000000 in
theorem kS_11 : runS 11 = true := by kernel_rfl
set_option maxHeartbeats 2000000 in
theorem kS_15 : runS 15 = true := by kernel_rfl
set_option maxHeartbeats 2000000 in
theorem kS_19 : runS 19 = true := by kernel_rfl
set_option maxHeartbeats 2000000 in
theorem kS_23 : runS 23 = true := by kernel_rfl

end Go.Proofs.YtehhcghjclefjaaGreatDoor
