/-
  What is proved here: runs of plugboardlaw18.HubsDevice: up to the request, Self 1, fast 1.
  Conditions: none.
-/
import Derived.Test.YtafkokkcnnfnlaaGreatDoorDDefs
namespace Go.Proofs.YtafkokkcnnfnlaaGreatDoor
open Go.Sy Go.RowKit

set_option maxRecDepth 1000000

theorem dvA_1_1_0 : headA (qA 1 1 0) = true := by kernel_rfl
theorem dvA_1_1_1 : headA (qA 1 1 1) = true := by kernel_rfl
theorem dvA_1_1_2 : headA (qA 1 1 2) = true := by kernel_rfl
theorem dvA_1_1_3 : headA (qA 1 1 3) = true := by kernel_rfl
theorem dvA_1_1_4 : headA (qA 1 1 4) = true := by kernel_rfl
theorem dvA_1_1_5 : headA (qA 1 1 5) = true := by kernel_rfl
theorem dvA_1_1_6 : headA (qA 1 1 6) = true := by kernel_rfl
theorem dvA_1_1 : ∀ x ∈ listA 1 1, headA (qA x.1 x.2.1 x.2.2) = true := by
  rw [show listA 1 1 = [(1, 1, 0), (1, 1, 1), (1, 1, 2), (1, 1, 3), (1, 1, 4), (1, 1, 5), (1, 1, 6)] from rfl]
  simp only [List.forall_mem_cons]
  exact ⟨dvA_1_1_0, dvA_1_1_1, dvA_1_1_2, dvA_1_1_3, dvA_1_1_4, dvA_1_1_5, dvA_1_1_6, fun _ h => nomatch h⟩

end Go.Proofs.YtafkokkcnnfnlaaGreatDoor
