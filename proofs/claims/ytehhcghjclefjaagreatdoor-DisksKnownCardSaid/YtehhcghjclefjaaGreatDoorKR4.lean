/-
  What is proved here: calls of DisksRun in plugboardlaw39.DisksKnown return true.
  Conditions: none.
-/
import Derived.Test.YtehhcghjclefjaaGreatDoorKDefs
namespace Go.Proofs.YtehhcghjclefjaaGreatDoor
open Go.Sy Go.RowKit

set_option maxRecDepth 1000000

set_option maxHeartbeats 2000000 in
theorem kR_4 : runR 4 = true := by kernel_rfl
set_option maxHeartbeats 2000000 in
theorem kR_12 : runR 12 = true := by kernel_rfl
set_option maxHeartbeats 2000000 in
theorem kR_20 : runR 20 = true := by kernel_rfl

end Go.Proofs.YtehhcghjclefjaaGreatDoor
