/-
  What is proved here: runs of plugboardlaw18.HubsDevice: from the request to the node, Self 0, group 4.
  Conditions: none.
-/
import Derived.Test.YtafkokkcnnfnlaaGreatDoorDDefs
namespace Go.Proofs.YtafkokkcnnfnlaaGreatDoor
open Go.Sy Go.RowKit

set_option maxRecDepth 1000000

theorem dvB_0_o : headB 0 (partO (partB 3 0 (pnB 0).pc)) = true := by kernel_rfl
theorem dvB_0_k1_0 : headB 0 (partI 0 (partK 1 (partB 3 0 (pnB 0).pc))) = true := by kernel_rfl
theorem dvB_0_k1_1 : headB 0 (partI 1 (partK 1 (partB 3 0 (pnB 0).pc))) = true := by kernel_rfl
theorem dvB_0_k1_2 : headB 0 (partI 2 (partK 1 (partB 3 0 (pnB 0).pc))) = true := by kernel_rfl
theorem dvB_0_k1_3 : headB 0 (partI 3 (partK 1 (partB 3 0 (pnB 0).pc))) = true := by kernel_rfl
theorem dvB_0_k1_4 : headB 0 (partI 4 (partK 1 (partB 3 0 (pnB 0).pc))) = true := by kernel_rfl
theorem dvB_0_k1_5 : headB 0 (partI 5 (partK 1 (partB 3 0 (pnB 0).pc))) = true := by kernel_rfl
theorem dvB_0_k1_6 : headB 0 (partI 6 (partK 1 (partB 3 0 (pnB 0).pc))) = true := by kernel_rfl
theorem dvB_0_k1_7 : headB 0 (partI 7 (partK 1 (partB 3 0 (pnB 0).pc))) = true := by kernel_rfl
theorem dvB_0_k1_8 : headB 0 (partI 8 (partK 1 (partB 3 0 (pnB 0).pc))) = true := by kernel_rfl
theorem dvB_0_k3_0 : headB 0 (partI 0 (partK 3 (partB 3 0 (pnB 0).pc))) = true := by kernel_rfl
theorem dvB_0_k3_1 : headB 0 (partI 1 (partK 3 (partB 3 0 (pnB 0).pc))) = true := by kernel_rfl
theorem dvB_0_k3_2 : headB 0 (partI 2 (partK 3 (partB 3 0 (pnB 0).pc))) = true := by kernel_rfl
theorem dvB_0_k3_3 : headB 0 (partI 3 (partK 3 (partB 3 0 (pnB 0).pc))) = true := by kernel_rfl
theorem dvB_0_k3_4 : headB 0 (partI 4 (partK 3 (partB 3 0 (pnB 0).pc))) = true := by kernel_rfl
theorem dvB_0_k3_5 : headB 0 (partI 5 (partK 3 (partB 3 0 (pnB 0).pc))) = true := by kernel_rfl
theorem dvB_0_k3_6 : headB 0 (partI 6 (partK 3 (partB 3 0 (pnB 0).pc))) = true := by kernel_rfl
theorem dvB_0_k3_7 : headB 0 (partI 7 (partK 3 (partB 3 0 (pnB 0).pc))) = true := by kernel_rfl
theorem dvB_0_k3_8 : headB 0 (partI 8 (partK 3 (partB 3 0 (pnB 0).pc))) = true := by kernel_rfl
theorem dvB_0_k : ∀ q ∈ qsK (pnB 0).pc, headB 0 q = true := by
  unfold qsK
  rw [show List.range 9 = [0, 1, 2, 3, 4, 5, 6, 7, 8] from rfl]
  simp only [List.map_cons, List.map_nil, List.cons_append, List.nil_append, List.forall_mem_cons]
  exact ⟨dvB_0_o, dvB_0_k1_0, dvB_0_k1_1, dvB_0_k1_2, dvB_0_k1_3, dvB_0_k1_4, dvB_0_k1_5, dvB_0_k1_6, dvB_0_k1_7, dvB_0_k1_8, dvB_0_k3_0, dvB_0_k3_1, dvB_0_k3_2, dvB_0_k3_3, dvB_0_k3_4, dvB_0_k3_5, dvB_0_k3_6, dvB_0_k3_7, dvB_0_k3_8, fun _ h => nomatch h⟩

end Go.Proofs.YtafkokkcnnfnlaaGreatDoor
