/-
  What is proved here: runs of plugboardlaw18.HubsDevice: from the node to the end, Self 1.
  Conditions: none.
-/
import Derived.Test.YtafkokkcnnfnlaaGreatDoorDDefs
namespace Go.Proofs.YtafkokkcnnfnlaaGreatDoor
open Go.Sy Go.RowKit

set_option maxRecDepth 1000000

theorem dvC_1_1 : endC 1 (caseC 1 1) = true := by kernel_rfl
theorem dvC_1_2 : endC 1 (caseC 1 2) = true := by kernel_rfl
theorem dvC_1_3 : endC 1 (caseC 1 3) = true := by kernel_rfl
theorem dvC_1_4 : endC 1 (caseC 1 4) = true := by kernel_rfl
theorem dvC_1_5 : endC 1 (caseC 1 5) = true := by kernel_rfl
theorem dvC_1_6 : endC 1 (caseC 1 6) = true := by kernel_rfl
theorem dvC_1_7 : endC 1 (caseC 1 7) = true := by kernel_rfl
theorem dvC_1 : ∀ q ∈ qsC 1, endC 1 q = true := by
  rw [show qsC 1 = [caseC 1 1, caseC 1 2, caseC 1 3, caseC 1 4, caseC 1 5, caseC 1 6, caseC 1 7] from rfl]
  simp only [List.forall_mem_cons]
  exact ⟨dvC_1_1, dvC_1_2, dvC_1_3, dvC_1_4, dvC_1_5, dvC_1_6, dvC_1_7, fun _ h => nomatch h⟩

end Go.Proofs.YtafkokkcnnfnlaaGreatDoor
