/-
  What is proved here: runs of plugboardlaw18.HubsErrors, by the speed, the number of ports, and the number of fixed ones.
  Conditions: none.
-/
import Derived.Test.YtgjhgbhoidnbfaaGreatDoorBase
namespace Go.Proofs.YtgjhgbhoidnbfaaGreatDoor
open Go.Sy Go.RowKit

set_option maxRecDepth 1000000

def errBoxes6 : List ((Int × Int) × (Int × Int) × (Int × Int)) := [((0, 0), (-128, 127), (6, 6)), ((1, 1), (-128, 0), (6, 6)), ((1, 1), (1, 1), (6, 6)), ((1, 1), (2, 2), (6, 6)), ((1, 1), (3, 3), (6, 6)), ((1, 1), (4, 4), (6, 6)), ((1, 1), (5, 5), (6, 6)), ((1, 1), (6, 6), (6, 6)), ((1, 1), (7, 7), (6, 6)), ((1, 1), (8, 127), (6, 6)), ((2, 2), (-128, 0), (6, 6)), ((2, 2), (1, 1), (6, 6)), ((2, 2), (2, 2), (6, 6)), ((2, 2), (3, 3), (6, 6)), ((2, 2), (4, 4), (6, 6)), ((2, 2), (5, 5), (6, 6)), ((2, 2), (6, 6), (6, 6)), ((2, 2), (7, 7), (6, 6)), ((2, 2), (8, 127), (6, 6)), ((3, 255), (-128, 127), (6, 6))]

theorem err_run6_0 : errRun ((0, 0), (-128, 127), (6, 6)) = true := by kernel_rfl
theorem err_run6_1 : errRun ((1, 1), (-128, 0), (6, 6)) = true := by kernel_rfl
theorem err_run6_2 : errRun ((1, 1), (1, 1), (6, 6)) = true := by kernel_rfl
theorem err_run6_3 : errRun ((1, 1), (2, 2), (6, 6)) = true := by kernel_rfl
theorem err_run6_4 : errRun ((1, 1), (3, 3), (6, 6)) = true := by kernel_rfl
theorem err_run6_5 : errRun ((1, 1), (4, 4), (6, 6)) = true := by kernel_rfl
theorem err_run6_6 : errRun ((1, 1), (5, 5), (6, 6)) = true := by kernel_rfl
theorem err_run6_7 : errRun ((1, 1), (6, 6), (6, 6)) = true := by kernel_rfl
theorem err_run6_8 : errRun ((1, 1), (7, 7), (6, 6)) = true := by kernel_rfl
theorem err_run6_9 : errRun ((1, 1), (8, 127), (6, 6)) = true := by kernel_rfl
theorem err_run6_10 : errRun ((2, 2), (-128, 0), (6, 6)) = true := by kernel_rfl
theorem err_run6_11 : errRun ((2, 2), (1, 1), (6, 6)) = true := by kernel_rfl
theorem err_run6_12 : errRun ((2, 2), (2, 2), (6, 6)) = true := by kernel_rfl
theorem err_run6_13 : errRun ((2, 2), (3, 3), (6, 6)) = true := by kernel_rfl
theorem err_run6_14 : errRun ((2, 2), (4, 4), (6, 6)) = true := by kernel_rfl
theorem err_run6_15 : errRun ((2, 2), (5, 5), (6, 6)) = true := by kernel_rfl
theorem err_run6_16 : errRun ((2, 2), (6, 6), (6, 6)) = true := by kernel_rfl
theorem err_run6_17 : errRun ((2, 2), (7, 7), (6, 6)) = true := by kernel_rfl
theorem err_run6_18 : errRun ((2, 2), (8, 127), (6, 6)) = true := by kernel_rfl
theorem err_run6_19 : errRun ((3, 255), (-128, 127), (6, 6)) = true := by kernel_rfl

theorem err_runs6 : ∀ r ∈ errBoxes6, errRun r = true := by
  unfold errBoxes6
  simp only [List.forall_mem_cons]
  exact ⟨err_run6_0, err_run6_1, err_run6_2, err_run6_3, err_run6_4, err_run6_5, err_run6_6, err_run6_7, err_run6_8, err_run6_9, err_run6_10, err_run6_11, err_run6_12, err_run6_13, err_run6_14, err_run6_15, err_run6_16, err_run6_17, err_run6_18, err_run6_19, fun _ h => nomatch h⟩

end Go.Proofs.YtgjhgbhoidnbfaaGreatDoor
