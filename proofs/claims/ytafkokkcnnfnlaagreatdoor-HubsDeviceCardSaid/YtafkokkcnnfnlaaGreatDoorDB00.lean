/-
  What is proved here: runs of plugboardlaw18.HubsDevice: from the request to the node, Self 0, group 0.
  Conditions: none.
-/
import Derived.Test.YtafkokkcnnfnlaaGreatDoorDDefs
namespace Go.Proofs.YtafkokkcnnfnlaaGreatDoor
open Go.Sy Go.RowKit

set_option maxRecDepth 1000000

theorem dvB_0_0_0 : headB 0 (partB 0 0 (pnB 0).pc) = true := by kernel_rfl
theorem dvB_0_0_1 : headB 0 (partB 0 1 (pnB 0).pc) = true := by kernel_rfl
theorem dvB_0_0_2 : headB 0 (partB 0 2 (pnB 0).pc) = true := by kernel_rfl
theorem dvB_0_0_3 : headB 0 (partB 0 3 (pnB 0).pc) = true := by kernel_rfl
theorem dvB_0_0_4 : headB 0 (partB 0 4 (pnB 0).pc) = true := by kernel_rfl
theorem dvB_0_0_5 : headB 0 (partB 0 5 (pnB 0).pc) = true := by kernel_rfl
theorem dvB_0_0_6 : headB 0 (partB 0 6 (pnB 0).pc) = true := by kernel_rfl
theorem dvB_0_0_7 : headB 0 (partB 0 7 (pnB 0).pc) = true := by kernel_rfl

end Go.Proofs.YtafkokkcnnfnlaaGreatDoor
