/-
  What is proved here: runs of plugboardlaw18.HubsDevice: from the node to the end, Self 0.
  Conditions: none.
-/
import Derived.Test.YtafkokkcnnfnlaaGreatDoorDDefs
namespace Go.Proofs.YtafkokkcnnfnlaaGreatDoor
open Go.Sy Go.RowKit

set_option maxRecDepth 1000000

theorem dvC_0_1 : endC 0 (caseC 0 1) = true := by kernel_rfl
theorem dvC_0_2 : endC 0 (caseC 0 2) = true := by kernel_rfl
theorem dvC_0_3 : endC 0 (caseC 0 3) = true := by kernel_rfl
theorem dvC_0_4 : endC 0 (caseC 0 4) = true := by kernel_rfl
theorem dvC_0_5 : endC 0 (caseC 0 5) = true := by kernel_rfl
theorem dvC_0_6 : endC 0 (caseC 0 6) = true := by kernel_rfl
theorem dvC_0_7 : endC 0 (caseC 0 7) = true := by kernel_rfl
theorem dvC_0 : ∀ q ∈ qsC 0, endC 0 q = true := by
  rw [show qsC 0 = [caseC 0 1, caseC 0 2, caseC 0 3, caseC 0 4, caseC 0 5, caseC 0 6, caseC 0 7] from rfl]
  simp only [List.forall_mem_cons]
  exact ⟨dvC_0_1, dvC_0_2, dvC_0_3, dvC_0_4, dvC_0_5, dvC_0_6, dvC_0_7, fun _ h => nomatch h⟩

end Go.Proofs.YtafkokkcnnfnlaaGreatDoor
