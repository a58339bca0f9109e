/-
  What is proved here: calls of DisksSurvive in plugboardlaw39.DisksKnown return true.
  Conditions: none.
-/
import Derived.Test.YtehhcghjclefjaaGreatDoorKDefs
namespace Go.Proofs.YtehhcghjclefjaaGreatDoor
open Go.Sy Go.RowKit

set_option maxRecDepth 1000000

set_option maxHeartbeats 2000000 in
theorem kS_0 : runS 0 = true := by kernel_rfl
set_option maxHeartbeats 2000000 in
theorem kS_4 : runS 4 = true := by kernel_rfl
set_option maxHeartbeats 2000000 in
theorem kS_8 : runS 8 = true := by kernel_rfl
set_option maxHeartbeats 2000000 in
theorem kS_12 : runS 12 = true := by kernel_rfl
set_option maxHeartbeats 2000000 in
theorem kS_16 : runS 16 = true := by kernel_rfl
set_option maxHeartbeats 2000000 in
theorem kS_20 : runS 20 = true := by kernel_rfl
set_option maxHeartbeats 2000000 in
theorem kS_24 : runS 24 = true := by kernel_rfl

end Go.Proofs.YtehhcghjclefjaaGreatDoor
