/-
  What is proved here: runs of plugboardlaw18.HubsErrors, by the speed, the number of ports, and the number of fixed ones.
  Conditions: none.
-/
import Derived.Test.YtgjhgbhoidnbfaaGreatDoorBase
namespace Go.Proofs.YtgjhgbhoidnbfaaGreatDoor
open Go.Sy Go.RowKit

set_option maxRecDepth 1000000

def errBoxes0 : List ((Int × Int) × (Int × Int) × (Int × Int)) := [((0, 0), (-128, 127), (-128, 0)), ((1, 1), (-128, 0), (-128, 0)), ((1, 1), (1, 1), (-128, 0)), ((1, 1), (2, 2), (-128, 0)), ((1, 1), (3, 3), (-128, 0)), ((1, 1), (4, 4), (-128, 0)), ((1, 1), (5, 5), (-128, 0)), ((1, 1), (6, 6), (-128, 0)), ((1, 1), (7, 7), (-128, 0)), ((1, 1), (8, 127), (-128, 0)), ((2, 2), (-128, 0), (-128, 0)), ((2, 2), (1, 1), (-128, 0)), ((2, 2), (2, 2), (-128, 0)), ((2, 2), (3, 3), (-128, 0)), ((2, 2), (4, 4), (-128, 0)), ((2, 2), (5, 5), (-128, 0)), ((2, 2), (6, 6), (-128, 0)), ((2, 2), (7, 7), (-128, 0)), ((2, 2), (8, 127), (-128, 0)), ((3, 255), (-128, 127), (-128, 0))]

theorem err_run0_0 : errRun ((0, 0), (-128, 127), (-128, 0)) = true := by kernel_rfl
theorem err_run0_1 : errRun ((1, 1), (-128, 0), (-128, 0)) = true := by kernel_rfl
theorem err_run0_2 : errRun ((1, 1), (1, 1), (-128, 0)) = true := by kernel_rfl
theorem err_run0_3 : errRun ((1, 1), (2, 2), (-128, 0)) = true := by kernel_rfl
theorem err_run0_4 : errRun ((1, 1), (3, 3), (-128, 0)) = true := by kernel_rfl
theorem err_run0_5 : errRun ((1, 1), (4, 4), (-128, 0)) = true := by kernel_rfl
theorem err_run0_6 : errRun ((1, 1), (5, 5), (-128, 0)) = true := by kernel_rfl
theorem err_run0_7 : errRun ((1, 1), (6, 6), (-128, 0)) = true := by kernel_rfl
theorem err_run0_8 : errRun ((1, 1), (7, 7), (-128, 0)) = true := by kernel_rfl
theorem err_run0_9 : errRun ((1, 1), (8, 127), (-128, 0)) = true := by kernel_rfl
theorem err_run0_10 : errRun ((2, 2), (-128, 0), (-128, 0)) = true := by kernel_rfl
theorem err_run0_11 : errRun ((2, 2), (1, 1), (-128, 0)) = true := by kernel_rfl
theorem err_run0_12 : errRun ((2, 2), (2, 2), (-128, 0)) = true := by kernel_rfl
theorem err_run0_13 : errRun ((2, 2), (3, 3), (-128, 0)) = true := by kernel_rfl
theorem err_run0_14 : errRun ((2, 2), (4, 4), (-128, 0)) = true := by kernel_rfl
theorem err_run0_15 : errRun ((2, 2), (5, 5), (-128, 0)) = true := by kernel_rfl
theorem err_run0_16 : errRun ((2, 2), (6, 6), (-128, 0)) = true := by kernel_rfl
theorem err_run0_17 : errRun ((2, 2), (7, 7), (-128, 0)) = true := by kernel_rfl
theorem err_run0_18 : errRun ((2, 2), (8, 127), (-128, 0)) = true := by kernel_rfl
theorem err_run0_19 : errRun ((3, 255), (-128, 127), (-128, 0)) = true := by kernel_rfl

theorem err_runs0 : ∀ r ∈ errBoxes0, errRun r = true := by
  unfold errBoxes0
  simp only [List.forall_mem_cons]
  exact ⟨err_run0_0, err_run0_1, err_run0_2, err_run0_3, err_run0_4, err_run0_5, err_run0_6, err_run0_7, err_run0_8, err_run0_9, err_run0_10, err_run0_11, err_run0_12, err_run0_13, err_run0_14, err_run0_15, err_run0_16, err_run0_17, err_run0_18, err_run0_19, fun _ h => nomatch h⟩

end Go.Proofs.YtgjhgbhoidnbfaaGreatDoor
