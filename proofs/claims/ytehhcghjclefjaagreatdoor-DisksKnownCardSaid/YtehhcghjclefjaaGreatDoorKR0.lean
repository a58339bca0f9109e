/-
  What is proved here: calls of DisksRun in plugboardlaw39.DisksKnown return true.
  Conditions: none.
-/
import Derived.Test.YtehhcghjclefjaaGreatDoorKDefs
namespace Go.Proofs.YtehhcghjclefjaaGreatDoor
open Go.Sy Go.RowKit

set_option maxRecDepth 1000000

set_option maxHeartbeats 2000000 in
theorem kR_0 : runR 0 = true := by kernel_rfl
set_option maxHeartbeats 2000000 in
theorem kR_8 : runR 8 = true := by kernel_rfl
set_option maxHeartbeats 2000000 in
theorem kR_16 : runR 16 = true := by kernel_rfl
set_option maxHeartbeats 2000000 in
theorem kR_24 : runR 24 = true := by kernel_rfl

end Go.Proofs.YtehhcghjclefjaaGreatDoor
