/-
  What is proved here: calls of DisksSurvive in plugboardlaw39.DisksKnown return true.
  Conditions: none.
-/
import Derived.Test.YtehhcghjclefjaaGreatDoorKDefs
namespace Go.Proofs.YtehhcghjclefjaaGreatDoor
open Go.Sy Go.RowKit

set_option maxRecDepth 1000000

set_option maxHeartbeats 2000000 in
theorem kS_2 : runS 2 = true := by kernel_rfl
set_option maxHeartbeats 2000000 in
theorem kS_6 : runS 6 = true := by kernel_rfl
set_option maxHeartbeats 2000000 in
theorem kS_10 : runS 10 = true := by kernel_rfl
set_option maxHeartbeats 2000000 in
theorem kS_14 : runS 14 = true := by kernel_rfl
set_option maxHeartbeats 2000000 in
theorem kS_18 : runS 18 = true := by kernel_rfl
set_option maxHeartbeats 2000000 in
theorem kS_22 : runS 22 = true := by kernel_rfl

end Go.Proofs.YtehhcghjclefjaaGreatDoor
