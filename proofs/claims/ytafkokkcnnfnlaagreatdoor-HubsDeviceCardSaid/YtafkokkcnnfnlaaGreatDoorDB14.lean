/-
  What is proved here: runs of plugboardlaw18.HubsDevice: from the request to the node, Self 1, group 4.
  Conditions: none.
-/
import Derived.Test.YtafkokkcnnfnlaaGreatDoorDDefs
namespace Go.Proofs.YtafkokkcnnfnlaaGreatDoor
open Go.Sy Go.RowKit

set_option maxRecDepth 1000000

theorem dvB_1_o : headB 1 (partO (partB 3 0 (pnB 1).pc)) = true := by kernel_rfl
theorem dvB_1_k1_0 : headB 1 (partI 0 (partK 1 (partB 3 0 (pnB 1).pc))) = true := by kernel_rfl
theorem dvB_1_k1_1 : headB 1 (partI 1 (partK 1 (partB 3 0 (pnB 1).pc))) = true := by kernel_rfl
theorem dvB_1_k1_2 : headB 1 (partI 2 (partK 1 (partB 3 0 (pnB 1).pc))) = true := by kernel_rfl
theorem dvB_1_k1_3 : headB 1 (partI 3 (partK 1 (partB 3 0 (pnB 1).pc))) = true := by kernel_rfl
theorem dvB_1_k1_4 : headB 1 (partI 4 (partK 1 (partB 3 0 (pnB 1).pc))) = true := by kernel_rfl
theorem dvB_1_k1_5 : headB 1 (partI 5 (partK 1 (partB 3 0 (pnB 1).pc))) = true := by kernel_rfl
theorem dvB_1_k1_6 : headB 1 (partI 6 (partK 1 (partB 3 0 (pnB 1).pc))) = true := by kernel_rfl
theorem dvB_1_k1_7 : headB 1 (partI 7 (partK 1 (partB 3 0 (pnB 1).pc))) = true := by kernel_rfl
theorem dvB_1_k1_8 : headB 1 (partI 8 (partK 1 (partB 3 0 (pnB 1).pc))) = true := by kernel_rfl
theorem dvB_1_k3_0 : headB 1 (partI 0 (partK 3 (partB 3 0 (pnB 1).pc))) = true := by kernel_rfl
theorem dvB_1_k3_1 : headB 1 (partI 1 (partK 3 (partB 3 0 (pnB 1).pc))) = true := by kernel_rfl
theorem dvB_1_k3_2 : headB 1 (partI 2 (partK 3 (partB 3 0 (pnB 1).pc))) = true := by kernel_rfl
theorem dvB_1_k3_3 : headB 1 (partI 3 (partK 3 (partB 3 0 (pnB 1).pc))) = true := by kernel_rfl
theorem dvB_1_k3_4 : headB 1 (partI 4 (partK 3 (partB 3 0 (pnB 1).pc))) = true := by kernel_rfl
theorem dvB_1_k3_5 : headB 1 (partI 5 (partK 3 (partB 3 0 (pnB 1).pc))) = true := by kernel_rfl
theorem dvB_1_k3_6 : headB 1 (partI 6 (partK 3 (partB 3 0 (pnB 1).pc))) = true := by kernel_rfl
theorem dvB_1_k3_7 : headB 1 (partI 7 (partK 3 (partB 3 0 (pnB 1).pc))) = true := by kernel_rfl
theorem dvB_1_k3_8 : headB 1 (partI 8 (partK 3 (partB 3 0 (pnB 1).pc))) = true := by kernel_rfl
theorem dvB_1_k : ∀ q ∈ qsK (pnB 1).pc, headB 1 q = true := by
  unfold qsK
  rw [show List.range 9 = [0, 1, 2, 3, 4, 5, 6, 7, 8] from rfl]
  simp only [List.map_cons, List.map_nil, List.cons_append, List.nil_append, List.forall_mem_cons]
  exact ⟨dvB_1_o, dvB_1_k1_0, dvB_1_k1_1, dvB_1_k1_2, dvB_1_k1_3, dvB_1_k1_4, dvB_1_k1_5, dvB_1_k1_6, dvB_1_k1_7, dvB_1_k1_8, dvB_1_k3_0, dvB_1_k3_1, dvB_1_k3_2, dvB_1_k3_3, dvB_1_k3_4, dvB_1_k3_5, dvB_1_k3_6, dvB_1_k3_7, dvB_1_k3_8, fun _ h => nomatch h⟩

end Go.Proofs.YtafkokkcnnfnlaaGreatDoor
