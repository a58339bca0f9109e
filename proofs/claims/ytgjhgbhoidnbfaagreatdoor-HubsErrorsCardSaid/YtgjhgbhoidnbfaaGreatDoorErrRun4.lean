/-
  What is proved here: runs of plugboardlaw18.HubsErrors, by the speed, the number of ports, and the number of fixed ones.
  Conditions: none.
-/
import Derived.Test.YtgjhgbhoidnbfaaGreatDoorBase
namespace Go.Proofs.YtgjhgbhoidnbfaaGreatDoor
open Go.Sy Go.RowKit

set_option maxRecDepth 1000000

def errBoxes4 : List ((Int × Int) × (Int × Int) × (Int × Int)) := [((0, 0), (-128, 127), (4, 4)), ((1, 1), (-128, 0), (4, 4)), ((1, 1), (1, 1), (4, 4)), ((1, 1), (2, 2), (4, 4)), ((1, 1), (3, 3), (4, 4)), ((1, 1), (4, 4), (4, 4)), ((1, 1), (5, 5), (4, 4)), ((1, 1), (6, 6), (4, 4)), ((1, 1), (7, 7), (4, 4)), ((1, 1), (8, 127), (4, 4)), ((2, 2), (-128, 0), (4, 4)), ((2, 2), (1, 1), (4, 4)), ((2, 2), (2, 2), (4, 4)), ((2, 2), (3, 3), (4, 4)), ((2, 2), (4, 4), (4, 4)), ((2, 2), (5, 5), (4, 4)), ((2, 2), (6, 6), (4, 4)), ((2, 2), (7, 7), (4, 4)), ((2, 2), (8, 127), (4, 4)), ((3, 255), (-128, 127), (4, 4))]

theorem err_run4_0 : errRun ((0, 0), (-128, 127), (4, 4)) = true := by kernel_rfl
theorem err_run4_1 : errRun ((1, 1), (-128, 0), (4, 4)) = true := by kernel_rfl
theorem err_run4_2 : errRun ((1, 1), (1, 1), (4, 4)) = true := by kernel_rfl
theorem err_run4_3 : errRun ((1, 1), (2, 2), (4, 4)) = true := by kernel_rfl
theorem err_run4_4 : errRun ((1, 1), (3, 3), (4, 4)) = true := by kernel_rfl
theorem err_run4_5 : errRun ((1, 1), (4, 4), (4, 4)) = true := by kernel_rfl
theorem err_run4_6 : errRun ((1, 1), (5, 5), (4, 4)) = true := by kernel_rfl
theorem err_run4_7 : errRun ((1, 1), (6, 6), (4, 4)) = true := by kernel_rfl
theorem err_run4_8 : errRun ((1, 1), (7, 7), (4, 4)) = true := by kernel_rfl
theorem err_run4_9 : errRun ((1, 1), (8, 127), (4, 4)) = true := by kernel_rfl
theorem err_run4_10 : errRun ((2, 2), (-128, 0), (4, 4)) = true := by kernel_rfl
theorem err_run4_11 : errRun ((2, 2), (1, 1), (4, 4)) = true := by kernel_rfl
theorem err_run4_12 : errRun ((2, 2), (2, 2), (4, 4)) = true := by kernel_rfl
theorem err_run4_13 : errRun ((2, 2), (3, 3), (4, 4)) = true := by kernel_rfl
theorem err_run4_14 : errRun ((2, 2), (4, 4), (4, 4)) = true := by kernel_rfl
theorem err_run4_15 : errRun ((2, 2), (5, 5), (4, 4)) = true := by kernel_rfl
theorem err_run4_16 : errRun ((2, 2), (6, 6), (4, 4)) = true := by kernel_rfl
theorem err_run4_17 : errRun ((2, 2), (7, 7), (4, 4)) = true := by kernel_rfl
theorem err_run4_18 : errRun ((2, 2), (8, 127), (4, 4)) = true := by kernel_rfl
theorem err_run4_19 : errRun ((3, 255), (-128, 127), (4, 4)) = true := by kernel_rfl

theorem err_runs4 : ∀ r ∈ errBoxes4, errRun r = true := by
  unfold errBoxes4
  simp only [List.forall_mem_cons]
  exact ⟨err_run4_0, err_run4_1, err_run4_2, err_run4_3, err_run4_4, err_run4_5, err_run4_6, err_run4_7, err_run4_8, err_run4_9, err_run4_10, err_run4_11, err_run4_12, err_run4_13, err_run4_14, err_run4_15, err_run4_16, err_run4_17, err_run4_18, err_run4_19, fun _ h => nomatch h⟩

end Go.Proofs.YtgjhgbhoidnbfaaGreatDoor
