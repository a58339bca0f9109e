/-
  What is proved here: runs of plugboardlaw18.HubsDevice: from the request to the node, Self 0, group 2.
  Conditions: none.
-/
import Derived.Test.YtafkokkcnnfnlaaGreatDoorDDefs
namespace Go.Proofs.YtafkokkcnnfnlaaGreatDoor
open Go.Sy Go.RowKit

set_option maxRecDepth 1000000

theorem dvB_0_2_0 : headB 0 (partB 2 0 (pnB 0).pc) = true := by kernel_rfl
theorem dvB_0_2_1 : headB 0 (partB 2 1 (pnB 0).pc) = true := by kernel_rfl
theorem dvB_0_2_2 : headB 0 (partB 2 2 (pnB 0).pc) = true := by kernel_rfl
theorem dvB_0_2_3 : headB 0 (partB 2 3 (pnB 0).pc) = true := by kernel_rfl
theorem dvB_0_2_4 : headB 0 (partB 2 4 (pnB 0).pc) = true := by kernel_rfl
theorem dvB_0_2_5 : headB 0 (partB 2 5 (pnB 0).pc) = true := by kernel_rfl
theorem dvB_0_2_6 : headB 0 (partB 2 6 (pnB 0).pc) = true := by kernel_rfl
theorem dvB_0_2_7 : headB 0 (partB 2 7 (pnB 0).pc) = true := by kernel_rfl

end Go.Proofs.YtafkokkcnnfnlaaGreatDoor
