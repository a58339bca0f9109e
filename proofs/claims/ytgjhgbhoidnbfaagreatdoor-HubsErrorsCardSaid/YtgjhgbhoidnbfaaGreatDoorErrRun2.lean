/-
  What is proved here: runs of plugboardlaw18.HubsErrors, by the speed, the number of ports, and the number of fixed ones.
  Conditions: none.
-/
import Derived.Test.YtgjhgbhoidnbfaaGreatDoorBase
namespace Go.Proofs.YtgjhgbhoidnbfaaGreatDoor
open Go.Sy Go.RowKit

set_option maxRecDepth 1000000

def errBoxes2 : List ((Int × Int) × (Int × Int) × (Int × Int)) := [((0, 0), (-128, 127), (2, 2)), ((1, 1), (-128, 0), (2, 2)), ((1, 1), (1, 1), (2, 2)), ((1, 1), (2, 2), (2, 2)), ((1, 1), (3, 3), (2, 2)), ((1, 1), (4, 4), (2, 2)), ((1, 1), (5, 5), (2, 2)), ((1, 1), (6, 6), (2, 2)), ((1, 1), (7, 7), (2, 2)), ((1, 1), (8, 127), (2, 2)), ((2, 2), (-128, 0), (2, 2)), ((2, 2), (1, 1), (2, 2)), ((2, 2), (2, 2), (2, 2)), ((2, 2), (3, 3), (2, 2)), ((2, 2), (4, 4), (2, 2)), ((2, 2), (5, 5), (2, 2)), ((2, 2), (6, 6), (2, 2)), ((2, 2), (7, 7), (2, 2)), ((2, 2), (8, 127), (2, 2)), ((3, 255), (-128, 127), (2, 2))]

theorem err_run2_0 : errRun ((0, 0), (-128, 127), (2, 2)) = true := by kernel_rfl
theorem err_run2_1 : errRun ((1, 1), (-128, 0), (2, 2)) = true := by kernel_rfl
theorem err_run2_2 : errRun ((1, 1), (1, 1), (2, 2)) = true := by kernel_rfl
theorem err_run2_3 : errRun ((1, 1), (2, 2), (2, 2)) = true := by kernel_rfl
theorem err_run2_4 : errRun ((1, 1), (3, 3), (2, 2)) = true := by kernel_rfl
theorem err_run2_5 : errRun ((1, 1), (4, 4), (2, 2)) = true := by kernel_rfl
theorem err_run2_6 : errRun ((1, 1), (5, 5), (2, 2)) = true := by kernel_rfl
theorem err_run2_7 : errRun ((1, 1), (6, 6), (2, 2)) = true := by kernel_rfl
theorem err_run2_8 : errRun ((1, 1), (7, 7), (2, 2)) = true := by kernel_rfl
theorem err_run2_9 : errRun ((1, 1), (8, 127), (2, 2)) = true := by kernel_rfl
theorem err_run2_10 : errRun ((2, 2), (-128, 0), (2, 2)) = true := by kernel_rfl
theorem err_run2_11 : errRun ((2, 2), (1, 1), (2, 2)) = true := by kernel_rfl
theorem err_run2_12 : errRun ((2, 2), (2, 2), (2, 2)) = true := by kernel_rfl
theorem err_run2_13 : errRun ((2, 2), (3, 3), (2, 2)) = true := by kernel_rfl
theorem err_run2_14 : errRun ((2, 2), (4, 4), (2, 2)) = true := by kernel_rfl
theorem err_run2_15 : errRun ((2, 2), (5, 5), (2, 2)) = true := by kernel_rfl
theorem err_run2_16 : errRun ((2, 2), (6, 6), (2, 2)) = true := by kernel_rfl
theorem err_run2_17 : errRun ((2, 2), (7, 7), (2, 2)) = true := by kernel_rfl
theorem err_run2_18 : errRun ((2, 2), (8, 127), (2, 2)) = true := by kernel_rfl
theorem err_run2_19 : errRun ((3, 255), (-128, 127), (2, 2)) = true := by kernel_rfl

theorem err_runs2 : ∀ r ∈ errBoxes2, errRun r = true := by
  unfold errBoxes2
  simp only [List.forall_mem_cons]
  exact ⟨err_run2_0, err_run2_1, err_run2_2, err_run2_3, err_run2_4, err_run2_5, err_run2_6, err_run2_7, err_run2_8, err_run2_9, err_run2_10, err_run2_11, err_run2_12, err_run2_13, err_run2_14, err_run2_15, err_run2_16, err_run2_17, err_run2_18, err_run2_19, fun _ h => nomatch h⟩

end Go.Proofs.YtgjhgbhoidnbfaaGreatDoor
