/-
  What is proved here: calls of DisksRun in plugboardlaw39.DisksKnown return true.
  Conditions: none.
-/
import Derived.Test.YtehhcghjclefjaaGreatDoorKDefs
namespace Go.Proofs.YtehhcghjclefjaaGreatDoor
open Go.Sy Go.RowKit

set_option maxRecDepth 1000000

set_option maxHeartbeats 2000000 in
theorem kR_6 : runR 6 = true := by kernel_rfl
set_option maxHeartbeats 2000000 in
theorem kR_14 : runR 14 = true := by kernel_rfl
set_option maxHeartbeats 2000000 in
theorem kR_22 : runR 22 = true := by kernel_rfl

end Go.Proofs.YtehhcghjclefjaaGreatDoor
