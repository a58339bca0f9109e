/-
  What is proved here: calls of DisksRun in plugboardlaw39.DisksKnown return true.
  Conditions: none.
-/
import Derived.Test.YtehhcghjclefjaaGreatDoorKDefs
namespace Go.Proofs.YtehhcghjclefjaaGreatDoor
open Go.Sy Go.RowKit

set_option maxRecDepth 1000000

set_option maxHeartbeats 2000000 in
theorem kR_5 : runR 5 = true := by kernel_rfl
set_option maxHeartbeats 2000000 in
theorem kR_13 : runR 13 = true := by kernel_rfl
set_option maxHeartbeats 2000000 in
theorem kR_21 : runR 21 = true := by kernel_rfl

end Go.Proofs.YtehhcghjclefjaaGreatDoor
