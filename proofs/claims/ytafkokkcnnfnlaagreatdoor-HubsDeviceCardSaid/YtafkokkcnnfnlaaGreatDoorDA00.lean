/-
  What is proved here: runs of plugboardlaw18.HubsDevice: up to the request, Self 0, fast 0.
  Conditions: none.
-/
import Derived.Test.YtafkokkcnnfnlaaGreatDoorDDefs
namespace Go.Proofs.YtafkokkcnnfnlaaGreatDoor
open Go.Sy Go.RowKit

set_option maxRecDepth 1000000

theorem dvA_0_0_0 : headA (qA 0 0 0) = true := by kernel_rfl
theorem dvA_0_0_1 : headA (qA 0 0 1) = true := by kernel_rfl
theorem dvA_0_0_2 : headA (qA 0 0 2) = true := by kernel_rfl
theorem dvA_0_0_3 : headA (qA 0 0 3) = true := by kernel_rfl
theorem dvA_0_0 : ∀ x ∈ listA 0 0, headA (qA x.1 x.2.1 x.2.2) = true := by
  rw [show listA 0 0 = [(0, 0, 0), (0, 0, 1), (0, 0, 2), (0, 0, 3)] from rfl]
  simp only [List.forall_mem_cons]
  exact ⟨dvA_0_0_0, dvA_0_0_1, dvA_0_0_2, dvA_0_0_3, fun _ h => nomatch h⟩

end Go.Proofs.YtafkokkcnnfnlaaGreatDoor
