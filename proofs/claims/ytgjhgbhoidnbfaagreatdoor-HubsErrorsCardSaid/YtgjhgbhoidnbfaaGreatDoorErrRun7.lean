/-
  What is proved here: runs of plugboardlaw18.HubsErrors, by the speed, the number of ports, and the number of fixed ones.
  Conditions: none.
-/
import Derived.Test.YtgjhgbhoidnbfaaGreatDoorBase
namespace Go.Proofs.YtgjhgbhoidnbfaaGreatDoor
open Go.Sy Go.RowKit

set_option maxRecDepth 1000000

def errBoxes7 : List ((Int × Int) × (Int × Int) × (Int × Int)) := [((0, 0), (-128, 127), (7, 7)), ((1, 1), (-128, 0), (7, 7)), ((1, 1), (1, 1), (7, 7)), ((1, 1), (2, 2), (7, 7)), ((1, 1), (3, 3), (7, 7)), ((1, 1), (4, 4), (7, 7)), ((1, 1), (5, 5), (7, 7)), ((1, 1), (6, 6), (7, 7)), ((1, 1), (7, 7), (7, 7)), ((1, 1), (8, 127), (7, 7)), ((2, 2), (-128, 0), (7, 7)), ((2, 2), (1, 1), (7, 7)), ((2, 2), (2, 2), (7, 7)), ((2, 2), (3, 3), (7, 7)), ((2, 2), (4, 4), (7, 7)), ((2, 2), (5, 5), (7, 7)), ((2, 2), (6, 6), (7, 7)), ((2, 2), (7, 7), (7, 7)), ((2, 2), (8, 127), (7, 7)), ((3, 255), (-128, 127), (7, 7))]

theorem err_run7_0 : errRun ((0, 0), (-128, 127), (7, 7)) = true := by kernel_rfl
theorem err_run7_1 : errRun ((1, 1), (-128, 0), (7, 7)) = true := by kernel_rfl
theorem err_run7_2 : errRun ((1, 1), (1, 1), (7, 7)) = true := by kernel_rfl
theorem err_run7_3 : errRun ((1, 1), (2, 2), (7, 7)) = true := by kernel_rfl
theorem err_run7_4 : errRun ((1, 1), (3, 3), (7, 7)) = true := by kernel_rfl
theorem err_run7_5 : errRun ((1, 1), (4, 4), (7, 7)) = true := by kernel_rfl
theorem err_run7_6 : errRun ((1, 1), (5, 5), (7, 7)) = true := by kernel_rfl
theorem err_run7_7 : errRun ((1, 1), (6, 6), (7, 7)) = true := by kernel_rfl
theorem err_run7_8 : errRun ((1, 1), (7, 7), (7, 7)) = true := by kernel_rfl
theorem err_run7_9 : errRun ((1, 1), (8, 127), (7, 7)) = true := by kernel_rfl
theorem err_run7_10 : errRun ((2, 2), (-128, 0), (7, 7)) = true := by kernel_rfl
theorem err_run7_11 : errRun ((2, 2), (1, 1), (7, 7)) = true := by kernel_rfl
theorem err_run7_12 : errRun ((2, 2), (2, 2), (7, 7)) = true := by kernel_rfl
theorem err_run7_13 : errRun ((2, 2), (3, 3), (7, 7)) = true := by kernel_rfl
theorem err_run7_14 : errRun ((2, 2), (4, 4), (7, 7)) = true := by kernel_rfl
theorem err_run7_15 : errRun ((2, 2), (5, 5), (7, 7)) = true := by kernel_rfl
theorem err_run7_16 : errRun ((2, 2), (6, 6), (7, 7)) = true := by kernel_rfl
theorem err_run7_17 : errRun ((2, 2), (7, 7), (7, 7)) = true := by kernel_rfl
theorem err_run7_18 : errRun ((2, 2), (8, 127), (7, 7)) = true := by kernel_rfl
theorem err_run7_19 : errRun ((3, 255), (-128, 127), (7, 7)) = true := by kernel_rfl

theorem err_runs7 : ∀ r ∈ errBoxes7, errRun r = true := by
  unfold errBoxes7
  simp only [List.forall_mem_cons]
  exact ⟨err_run7_0, err_run7_1, err_run7_2, err_run7_3, err_run7_4, err_run7_5, err_run7_6, err_run7_7, err_run7_8, err_run7_9, err_run7_10, err_run7_11, err_run7_12, err_run7_13, err_run7_14, err_run7_15, err_run7_16, err_run7_17, err_run7_18, err_run7_19, fun _ h => nomatch h⟩

end Go.Proofs.YtgjhgbhoidnbfaaGreatDoor
