/-
  What is proved here: runs of plugboardlaw18.HubsDevice: from the request to the node, Self 1, group 1.
  Conditions: none.
-/
import Derived.Test.YtafkokkcnnfnlaaGreatDoorDDefs
namespace Go.Proofs.YtafkokkcnnfnlaaGreatDoor
open Go.Sy Go.RowKit

set_option maxRecDepth 1000000

theorem dvB_1_m0_n : headB 1 (partN (partM 1 0 (pnB 1).pc)) = true := by kernel_rfl
theorem dvB_1_m0_0 : headB 1 (partI 0 (partK 0 (partM 1 0 (pnB 1).pc))) = true := by kernel_rfl
theorem dvB_1_m0_1 : headB 1 (partI 1 (partK 0 (partM 1 0 (pnB 1).pc))) = true := by kernel_rfl
theorem dvB_1_m0_2 : headB 1 (partI 2 (partK 0 (partM 1 0 (pnB 1).pc))) = true := by kernel_rfl
theorem dvB_1_m0_3 : headB 1 (partI 3 (partK 0 (partM 1 0 (pnB 1).pc))) = true := by kernel_rfl
theorem dvB_1_m0_4 : headB 1 (partI 4 (partK 0 (partM 1 0 (pnB 1).pc))) = true := by kernel_rfl
theorem dvB_1_m0_5 : headB 1 (partI 5 (partK 0 (partM 1 0 (pnB 1).pc))) = true := by kernel_rfl
theorem dvB_1_m0_6 : headB 1 (partI 6 (partK 0 (partM 1 0 (pnB 1).pc))) = true := by kernel_rfl
theorem dvB_1_m0_7 : headB 1 (partI 7 (partK 0 (partM 1 0 (pnB 1).pc))) = true := by kernel_rfl
theorem dvB_1_m0_8 : headB 1 (partI 8 (partK 0 (partM 1 0 (pnB 1).pc))) = true := by kernel_rfl
theorem dvB_1_m0 : ∀ q ∈ qsM 0 (pnB 1).pc, headB 1 q = true := by
  unfold qsM
  rw [show List.range 9 = [0, 1, 2, 3, 4, 5, 6, 7, 8] from rfl]
  simp only [List.map_cons, List.map_nil, List.forall_mem_cons]
  exact ⟨dvB_1_m0_n, dvB_1_m0_0, dvB_1_m0_1, dvB_1_m0_2, dvB_1_m0_3, dvB_1_m0_4, dvB_1_m0_5, dvB_1_m0_6, dvB_1_m0_7, dvB_1_m0_8, fun _ h => nomatch h⟩
theorem dvB_1_m1_n : headB 1 (partN (partM 1 1 (pnB 1).pc)) = true := by kernel_rfl
theorem dvB_1_m1_0 : headB 1 (partI 0 (partK 0 (partM 1 1 (pnB 1).pc))) = true := by kernel_rfl
theorem dvB_1_m1_1 : headB 1 (partI 1 (partK 0 (partM 1 1 (pnB 1).pc))) = true := by kernel_rfl
theorem dvB_1_m1_2 : headB 1 (partI 2 (partK 0 (partM 1 1 (pnB 1).pc))) = true := by kernel_rfl
theorem dvB_1_m1_3 : headB 1 (partI 3 (partK 0 (partM 1 1 (pnB 1).pc))) = true := by kernel_rfl
theorem dvB_1_m1_4 : headB 1 (partI 4 (partK 0 (partM 1 1 (pnB 1).pc))) = true := by kernel_rfl
theorem dvB_1_m1_5 : headB 1 (partI 5 (partK 0 (partM 1 1 (pnB 1).pc))) = true := by kernel_rfl
theorem dvB_1_m1_6 : headB 1 (partI 6 (partK 0 (partM 1 1 (pnB 1).pc))) = true := by kernel_rfl
theorem dvB_1_m1_7 : headB 1 (partI 7 (partK 0 (partM 1 1 (pnB 1).pc))) = true := by kernel_rfl
theorem dvB_1_m1_8 : headB 1 (partI 8 (partK 0 (partM 1 1 (pnB 1).pc))) = true := by kernel_rfl
theorem dvB_1_m1 : ∀ q ∈ qsM 1 (pnB 1).pc, headB 1 q = true := by
  unfold qsM
  rw [show List.range 9 = [0, 1, 2, 3, 4, 5, 6, 7, 8] from rfl]
  simp only [List.map_cons, List.map_nil, List.forall_mem_cons]
  exact ⟨dvB_1_m1_n, dvB_1_m1_0, dvB_1_m1_1, dvB_1_m1_2, dvB_1_m1_3, dvB_1_m1_4, dvB_1_m1_5, dvB_1_m1_6, dvB_1_m1_7, dvB_1_m1_8, fun _ h => nomatch h⟩
theorem dvB_1_m2_n : headB 1 (partN (partM 1 2 (pnB 1).pc)) = true := by kernel_rfl
theorem dvB_1_m2_0 : headB 1 (partI 0 (partK 0 (partM 1 2 (pnB 1).pc))) = true := by kernel_rfl
theorem dvB_1_m2_1 : headB 1 (partI 1 (partK 0 (partM 1 2 (pnB 1).pc))) = true := by kernel_rfl
theorem dvB_1_m2_2 : headB 1 (partI 2 (partK 0 (partM 1 2 (pnB 1).pc))) = true := by kernel_rfl
theorem dvB_1_m2_3 : headB 1 (partI 3 (partK 0 (partM 1 2 (pnB 1).pc))) = true := by kernel_rfl
theorem dvB_1_m2_4 : headB 1 (partI 4 (partK 0 (partM 1 2 (pnB 1).pc))) = true := by kernel_rfl
theorem dvB_1_m2_5 : headB 1 (partI 5 (partK 0 (partM 1 2 (pnB 1).pc))) = true := by kernel_rfl
theorem dvB_1_m2_6 : headB 1 (partI 6 (partK 0 (partM 1 2 (pnB 1).pc))) = true := by kernel_rfl
theorem dvB_1_m2_7 : headB 1 (partI 7 (partK 0 (partM 1 2 (pnB 1).pc))) = true := by kernel_rfl
theorem dvB_1_m2_8 : headB 1 (partI 8 (partK 0 (partM 1 2 (pnB 1).pc))) = true := by kernel_rfl
theorem dvB_1_m2 : ∀ q ∈ qsM 2 (pnB 1).pc, headB 1 q = true := by
  unfold qsM
  rw [show List.range 9 = [0, 1, 2, 3, 4, 5, 6, 7, 8] from rfl]
  simp only [List.map_cons, List.map_nil, List.forall_mem_cons]
  exact ⟨dvB_1_m2_n, dvB_1_m2_0, dvB_1_m2_1, dvB_1_m2_2, dvB_1_m2_3, dvB_1_m2_4, dvB_1_m2_5, dvB_1_m2_6, dvB_1_m2_7, dvB_1_m2_8, fun _ h => nomatch h⟩

end Go.Proofs.YtafkokkcnnfnlaaGreatDoor
