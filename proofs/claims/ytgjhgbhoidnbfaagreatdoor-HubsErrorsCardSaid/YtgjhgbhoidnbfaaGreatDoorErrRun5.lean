/-
  What is proved here: runs of plugboardlaw18.HubsErrors, by the speed, the number of ports, and the number of fixed ones.
  Conditions: none.
-/
import Derived.Test.YtgjhgbhoidnbfaaGreatDoorBase
namespace Go.Proofs.YtgjhgbhoidnbfaaGreatDoor
open Go.Sy Go.RowKit

set_option maxRecDepth 1000000

def errBoxes5 : List ((Int × Int) × (Int × Int) × (Int × Int)) := [((0, 0), (-128, 127), (5, 5)), ((1, 1), (-128, 0), (5, 5)), ((1, 1), (1, 1), (5, 5)), ((1, 1), (2, 2), (5, 5)), ((1, 1), (3, 3), (5, 5)), ((1, 1), (4, 4), (5, 5)), ((1, 1), (5, 5), (5, 5)), ((1, 1), (6, 6), (5, 5)), ((1, 1), (7, 7), (5, 5)), ((1, 1), (8, 127), (5, 5)), ((2, 2), (-128, 0), (5, 5)), ((2, 2), (1, 1), (5, 5)), ((2, 2), (2, 2), (5, 5)), ((2, 2), (3, 3), (5, 5)), ((2, 2), (4, 4), (5, 5)), ((2, 2), (5, 5), (5, 5)), ((2, 2), (6, 6), (5, 5)), ((2, 2), (7, 7), (5, 5)), ((2, 2), (8, 127), (5, 5)), ((3, 255), (-128, 127), (5, 5))]

theorem err_run5_0 : errRun ((0, 0), (-128, 127), (5, 5)) = true := by kernel_rfl
theorem err_run5_1 : errRun ((1, 1), (-128, 0), (5, 5)) = true := by kernel_rfl
theorem err_run5_2 : errRun ((1, 1), (1, 1), (5, 5)) = true := by kernel_rfl
theorem err_run5_3 : errRun ((1, 1), (2, 2), (5, 5)) = true := by kernel_rfl
theorem err_run5_4 : errRun ((1, 1), (3, 3), (5, 5)) = true := by kernel_rfl
theorem err_run5_5 : errRun ((1, 1), (4, 4), (5, 5)) = true := by kernel_rfl
theorem err_run5_6 : errRun ((1, 1), (5, 5), (5, 5)) = true := by kernel_rfl
theorem err_run5_7 : errRun ((1, 1), (6, 6), (5, 5)) = true := by kernel_rfl
theorem err_run5_8 : errRun ((1, 1), (7, 7), (5, 5)) = true := by kernel_rfl
theorem err_run5_9 : errRun ((1, 1), (8, 127), (5, 5)) = true := by kernel_rfl
theorem err_run5_10 : errRun ((2, 2), (-128, 0), (5, 5)) = true := by kernel_rfl
theorem err_run5_11 : errRun ((2, 2), (1, 1), (5, 5)) = true := by kernel_rfl
theorem err_run5_12 : errRun ((2, 2), (2, 2), (5, 5)) = true := by kernel_rfl
theorem err_run5_13 : errRun ((2, 2), (3, 3), (5, 5)) = true := by kernel_rfl
theorem err_run5_14 : errRun ((2, 2), (4, 4), (5, 5)) = true := by kernel_rfl
theorem err_run5_15 : errRun ((2, 2), (5, 5), (5, 5)) = true := by kernel_rfl
theorem err_run5_16 : errRun ((2, 2), (6, 6), (5, 5)) = true := by kernel_rfl
theorem err_run5_17 : errRun ((2, 2), (7, 7), (5, 5)) = true := by kernel_rfl
theorem err_run5_18 : errRun ((2, 2), (8, 127), (5, 5)) = true := by kernel_rfl
theorem err_run5_19 : errRun ((3, 255), (-128, 127), (5, 5)) = true := by kernel_rfl

theorem err_runs5 : ∀ r ∈ errBoxes5, errRun r = true := by
  unfold errBoxes5
  simp only [List.forall_mem_cons]
  exact ⟨err_run5_0, err_run5_1, err_run5_2, err_run5_3, err_run5_4, err_run5_5, err_run5_6, err_run5_7, err_run5_8, err_run5_9, err_run5_10, err_run5_11, err_run5_12, err_run5_13, err_run5_14, err_run5_15, err_run5_16, err_run5_17, err_run5_18, err_run5_19, fun _ h => nomatch h⟩

end Go.Proofs.YtgjhgbhoidnbfaaGreatDoor
