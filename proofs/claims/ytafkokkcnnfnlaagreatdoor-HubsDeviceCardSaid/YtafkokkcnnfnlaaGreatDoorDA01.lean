/-
  What is proved here: runs of plugboardlaw18.HubsDevice: up to the request, Self 0, fast 1.
  Conditions: none.
-/
import Derived.Test.YtafkokkcnnfnlaaGreatDoorDDefs
namespace Go.Proofs.YtafkokkcnnfnlaaGreatDoor
open Go.Sy Go.RowKit

set_option maxRecDepth 1000000

theorem dvA_0_1_0 : headA (qA 0 1 0) = true := by kernel_rfl
theorem dvA_0_1_1 : headA (qA 0 1 1) = true := by kernel_rfl
theorem dvA_0_1_2 : headA (qA 0 1 2) = true := by kernel_rfl
theorem dvA_0_1_3 : headA (qA 0 1 3) = true := by kernel_rfl
theorem dvA_0_1 : ∀ x ∈ listA 0 1, headA (qA x.1 x.2.1 x.2.2) = true := by
  rw [show listA 0 1 = [(0, 1, 0), (0, 1, 1), (0, 1, 2), (0, 1, 3)] from rfl]
  simp only [List.forall_mem_cons]
  exact ⟨dvA_0_1_0, dvA_0_1_1, dvA_0_1_2, dvA_0_1_3, fun _ h => nomatch h⟩

end Go.Proofs.YtafkokkcnnfnlaaGreatDoor
