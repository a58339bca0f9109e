/-
  What is proved here: runs of plugboardlaw18.HubsDevice: up to the request, Self 1, fast 0.
  Conditions: none.
-/
import Derived.Test.YtafkokkcnnfnlaaGreatDoorDDefs
namespace Go.Proofs.YtafkokkcnnfnlaaGreatDoor
open Go.Sy Go.RowKit

set_option maxRecDepth 1000000

theorem dvA_1_0_0 : headA (qA 1 0 0) = true := by kernel_rfl
theorem dvA_1_0_1 : headA (qA 1 0 1) = true := by kernel_rfl
theorem dvA_1_0_2 : headA (qA 1 0 2) = true := by kernel_rfl
theorem dvA_1_0_3 : headA (qA 1 0 3) = true := by kernel_rfl
theorem dvA_1_0_4 : headA (qA 1 0 4) = true := by kernel_rfl
theorem dvA_1_0_5 : headA (qA 1 0 5) = true := by kernel_rfl
theorem dvA_1_0_6 : headA (qA 1 0 6) = true := by kernel_rfl
theorem dvA_1_0 : ∀ x ∈ listA 1 0, headA (qA x.1 x.2.1 x.2.2) = true := by
  rw [show listA 1 0 = [(1, 0, 0), (1, 0, 1), (1, 0, 2), (1, 0, 3), (1, 0, 4), (1, 0, 5), (1, 0, 6)] from rfl]
  simp only [List.forall_mem_cons]
  exact ⟨dvA_1_0_0, dvA_1_0_1, dvA_1_0_2, dvA_1_0_3, dvA_1_0_4, dvA_1_0_5, dvA_1_0_6, fun _ h => nomatch h⟩

end Go.Proofs.YtafkokkcnnfnlaaGreatDoor
