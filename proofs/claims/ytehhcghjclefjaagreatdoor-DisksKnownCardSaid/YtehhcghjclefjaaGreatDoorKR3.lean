/-
  What is proved here: calls of DisksRun in plugboardlaw39.DisksKnown return true.
  Conditions: none.
-/
import Derived.Test.YtehhcghjclefjaaGreatDoorKDefs
namespace Go.Proofs.YtehhcghjclefjaaGreatDoor
open Go.Sy Go.RowKit

set_option maxRecDepth 1000000

set_option maxHeartbeats 2000000 in
theorem kR_3 : runR 3 = true := by kernel_rfl
set_option maxHeartbeats 2000000 in
theorem kR_11 : runR 11 = true := by kernel_rfl
set_option maxHeartbeats 2000000 in
theorem kR_19 : runR 19 = true := by kernel_rfl

end Go.Proofs.YtehhcghjclefjaaGreatDoor
