/-
  What is proved here: runs of plugboardlaw18.HubsDevice: from the request to the node, Self 1, group 3.
  Conditions: none.
-/
import Derived.Test.YtafkokkcnnfnlaaGreatDoorDDefs
namespace Go.Proofs.YtafkokkcnnfnlaaGreatDoor
open Go.Sy Go.RowKit

set_option maxRecDepth 1000000

theorem dvB_1_3_1 : headB 1 (partB 3 1 (pnB 1).pc) = true := by kernel_rfl
theorem dvB_1_3_2 : headB 1 (partB 3 2 (pnB 1).pc) = true := by kernel_rfl
theorem dvB_1_3_3 : headB 1 (partB 3 3 (pnB 1).pc) = true := by kernel_rfl
theorem dvB_1_3_4 : headB 1 (partB 3 4 (pnB 1).pc) = true := by kernel_rfl
theorem dvB_1_3_5 : headB 1 (partB 3 5 (pnB 1).pc) = true := by kernel_rfl
theorem dvB_1_3_6 : headB 1 (partB 3 6 (pnB 1).pc) = true := by kernel_rfl
theorem dvB_1_3_7 : headB 1 (partB 3 7 (pnB 1).pc) = true := by kernel_rfl

end Go.Proofs.YtafkokkcnnfnlaaGreatDoor
