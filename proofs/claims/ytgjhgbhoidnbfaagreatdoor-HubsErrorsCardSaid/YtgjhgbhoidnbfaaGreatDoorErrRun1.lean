/-
  What is proved here: runs of plugboardlaw18.HubsErrors, by the speed, the number of ports, and the number of fixed ones.
  Conditions: none.
-/
import Derived.Test.YtgjhgbhoidnbfaaGreatDoorBase
namespace Go.Proofs.YtgjhgbhoidnbfaaGreatDoor
open Go.Sy Go.RowKit

set_option maxRecDepth 1000000

def errBoxes1 : List ((Int × Int) × (Int × Int) × (Int × Int)) := [((0, 0), (-128, 127), (1, 1)), ((1, 1), (-128, 0), (1, 1)), ((1, 1), (1, 1), (1, 1)), ((1, 1), (2, 2), (1, 1)), ((1, 1), (3, 3), (1, 1)), ((1, 1), (4, 4), (1, 1)), ((1, 1), (5, 5), (1, 1)), ((1, 1), (6, 6), (1, 1)), ((1, 1), (7, 7), (1, 1)), ((1, 1), (8, 127), (1, 1)), ((2, 2), (-128, 0), (1, 1)), ((2, 2), (1, 1), (1, 1)), ((2, 2), (2, 2), (1, 1)), ((2, 2), (3, 3), (1, 1)), ((2, 2), (4, 4), (1, 1)), ((2, 2), (5, 5), (1, 1)), ((2, 2), (6, 6), (1, 1)), ((2, 2), (7, 7), (1, 1)), ((2, 2), (8, 127), (1, 1)), ((3, 255), (-128, 127), (1, 1))]

theorem err_run1_0 : errRun ((0, 0), (-128, 127), (1, 1)) = true := by kernel_rfl
theorem err_run1_1 : errRun ((1, 1), (-128, 0), (1, 1)) = true := by kernel_rfl
theorem err_run1_2 : errRun ((1, 1), (1, 1), (1, 1)) = true := by kernel_rfl
theorem err_run1_3 : errRun ((1, 1), (2, 2), (1, 1)) = true := by kernel_rfl
theorem err_run1_4 : errRun ((1, 1), (3, 3), (1, 1)) = true := by kernel_rfl
theorem err_run1_5 : errRun ((1, 1), (4, 4), (1, 1)) = true := by kernel_rfl
theorem err_run1_6 : errRun ((1, 1), (5, 5), (1, 1)) = true := by kernel_rfl
theorem err_run1_7 : errRun ((1, 1), (6, 6), (1, 1)) = true := by kernel_rfl
theorem err_run1_8 : errRun ((1, 1), (7, 7), (1, 1)) = true := by kernel_rfl
theorem err_run1_9 : errRun ((1, 1), (8, 127), (1, 1)) = true := by kernel_rfl
theorem err_run1_10 : errRun ((2, 2), (-128, 0), (1, 1)) = true := by kernel_rfl
theorem err_run1_11 : errRun ((2, 2), (1, 1), (1, 1)) = true := by kernel_rfl
theorem err_run1_12 : errRun ((2, 2), (2, 2), (1, 1)) = true := by kernel_rfl
theorem err_run1_13 : errRun ((2, 2), (3, 3), (1, 1)) = true := by kernel_rfl
theorem err_run1_14 : errRun ((2, 2), (4, 4), (1, 1)) = true := by kernel_rfl
theorem err_run1_15 : errRun ((2, 2), (5, 5), (1, 1)) = true := by kernel_rfl
theorem err_run1_16 : errRun ((2, 2), (6, 6), (1, 1)) = true := by kernel_rfl
theorem err_run1_17 : errRun ((2, 2), (7, 7), (1, 1)) = true := by kernel_rfl
theorem err_run1_18 : errRun ((2, 2), (8, 127), (1, 1)) = true := by kernel_rfl
theorem err_run1_19 : errRun ((3, 255), (-128, 127), (1, 1)) = true := by kernel_rfl

theorem err_runs1 : ∀ r ∈ errBoxes1, errRun r = true := by
  unfold errBoxes1
  simp only [List.forall_mem_cons]
  exact ⟨err_run1_0, err_run1_1, err_run1_2, err_run1_3, err_run1_4, err_run1_5, err_run1_6, err_run1_7, err_run1_8, err_run1_9, err_run1_10, err_run1_11, err_run1_12, err_run1_13, err_run1_14, err_run1_15, err_run1_16, err_run1_17, err_run1_18, err_run1_19, fun _ h => nomatch h⟩

end Go.Proofs.YtgjhgbhoidnbfaaGreatDoor
