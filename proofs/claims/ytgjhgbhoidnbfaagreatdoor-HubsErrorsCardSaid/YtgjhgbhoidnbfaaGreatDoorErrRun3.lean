/-
  What is proved here: runs of plugboardlaw18.HubsErrors, by the speed, the number of ports, and the number of fixed ones.
  Conditions: none.
-/
import Derived.Test.YtgjhgbhoidnbfaaGreatDoorBase
namespace Go.Proofs.YtgjhgbhoidnbfaaGreatDoor
open Go.Sy Go.RowKit

set_option maxRecDepth 1000000

def errBoxes3 : List ((Int × Int) × (Int × Int) × (Int × Int)) := [((0, 0), (-128, 127), (3, 3)), ((1, 1), (-128, 0), (3, 3)), ((1, 1), (1, 1), (3, 3)), ((1, 1), (2, 2), (3, 3)), ((1, 1), (3, 3), (3, 3)), ((1, 1), (4, 4), (3, 3)), ((1, 1), (5, 5), (3, 3)), ((1, 1), (6, 6), (3, 3)), ((1, 1), (7, 7), (3, 3)), ((1, 1), (8, 127), (3, 3)), ((2, 2), (-128, 0), (3, 3)), ((2, 2), (1, 1), (3, 3)), ((2, 2), (2, 2), (3, 3)), ((2, 2), (3, 3), (3, 3)), ((2, 2), (4, 4), (3, 3)), ((2, 2), (5, 5), (3, 3)), ((2, 2), (6, 6), (3, 3)), ((2, 2), (7, 7), (3, 3)), ((2, 2), (8, 127), (3, 3)), ((3, 255), (-128, 127), (3, 3))]

theorem err_run3_0 : errRun ((0, 0), (-128, 127), (3, 3)) = true := by kernel_rfl
theorem err_run3_1 : errRun ((1, 1), (-128, 0), (3, 3)) = true := by kernel_rfl
theorem err_run3_2 : errRun ((1, 1), (1, 1), (3, 3)) = true := by kernel_rfl
theorem err_run3_3 : errRun ((1, 1), (2, 2), (3, 3)) = true := by kernel_rfl
theorem err_run3_4 : errRun ((1, 1), (3, 3), (3, 3)) = true := by kernel_rfl
theorem err_run3_5 : errRun ((1, 1), (4, 4), (3, 3)) = true := by kernel_rfl
theorem err_run3_6 : errRun ((1, 1), (5, 5), (3, 3)) = true := by kernel_rfl
theorem err_run3_7 : errRun ((1, 1), (6, 6), (3, 3)) = true := by kernel_rfl
theorem err_run3_8 : errRun ((1, 1), (7, 7), (3, 3)) = true := by kernel_rfl
theorem err_run3_9 : errRun ((1, 1), (8, 127), (3, 3)) = true := by kernel_rfl
theorem err_run3_10 : errRun ((2, 2), (-128, 0), (3, 3)) = true := by kernel_rfl
theorem err_run3_11 : errRun ((2, 2), (1, 1), (3, 3)) = true := by kernel_rfl
theorem err_run3_12 : errRun ((2, 2), (2, 2), (3, 3)) = true := by kernel_rfl
theorem err_run3_13 : errRun ((2, 2), (3, 3), (3, 3)) = true := by kernel_rfl
theorem err_run3_14 : errRun ((2, 2), (4, 4), (3, 3)) = true := by kernel_rfl
theorem err_run3_15 : errRun ((2, 2), (5, 5), (3, 3)) = true := by kernel_rfl
theorem err_run3_16 : errRun ((2, 2), (6, 6), (3, 3)) = true := by kernel_rfl
theorem err_run3_17 : errRun ((2, 2), (7, 7), (3, 3)) = true := by kernel_rfl
theorem err_run3_18 : errRun ((2, 2), (8, 127), (3, 3)) = true := by kernel_rfl
theorem err_run3_19 : errRun ((3, 255), (-128, 127), (3, 3)) = true := by kernel_rfl

theorem err_runs3 : ∀ r ∈ errBoxes3, errRun r = true := by
  unfold errBoxes3
  simp only [List.forall_mem_cons]
  exact ⟨err_run3_0, err_run3_1, err_run3_2, err_run3_3, err_run3_4, err_run3_5, err_run3_6, err_run3_7, err_run3_8, err_run3_9, err_run3_10, err_run3_11, err_run3_12, err_run3_13, err_run3_14, err_run3_15, err_run3_16, err_run3_17, err_run3_18, err_run3_19, fun _ h => nomatch h⟩

end Go.Proofs.YtgjhgbhoidnbfaaGreatDoor
