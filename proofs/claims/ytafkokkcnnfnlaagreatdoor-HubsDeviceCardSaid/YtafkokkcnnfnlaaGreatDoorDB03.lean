/-
  What is proved here: runs of plugboardlaw18.HubsDevice: from the request to the node, Self 0, group 3.
  Conditions: none.
-/
import Derived.Test.YtafkokkcnnfnlaaGreatDoorDDefs
namespace Go.Proofs.YtafkokkcnnfnlaaGreatDoor
open Go.Sy Go.RowKit

set_option maxRecDepth 1000000

theorem dvB_0_3_1 : headB 0 (partB 3 1 (pnB 0).pc) = true := by kernel_rfl
theorem dvB_0_3_2 : headB 0 (partB 3 2 (pnB 0).pc) = true := by kernel_rfl
theorem dvB_0_3_3 : headB 0 (partB 3 3 (pnB 0).pc) = true := by kernel_rfl
theorem dvB_0_3_4 : headB 0 (partB 3 4 (pnB 0).pc) = true := by kernel_rfl
theorem dvB_0_3_5 : headB 0 (partB 3 5 (pnB 0).pc) = true := by kernel_rfl
theorem dvB_0_3_6 : headB 0 (partB 3 6 (pnB 0).pc) = true := by kernel_rfl
theorem dvB_0_3_7 : headB 0 (partB 3 7 (pnB 0).pc) = true := by kernel_rfl

end Go.Proofs.YtafkokkcnnfnlaaGreatDoor
