/-
  What is proved here: runs of plugboardlaw18.HubsErrors, by the speed, the number of ports, and the number of fixed ones.
  Conditions: none.
-/
import Derived.Test.YtgjhgbhoidnbfaaGreatDoorBase
namespace Go.Proofs.YtgjhgbhoidnbfaaGreatDoor
open Go.Sy Go.RowKit

set_option maxRecDepth 1000000

def errBoxes10 : List ((Int × Int) × (Int × Int) × (Int × Int)) := [((0, 255), (-128, 127), (72, 75)), ((0, 255), (-128, 127), (76, 79)), ((0, 255), (-128, 127), (80, 83)), ((0, 255), (-128, 127), (84, 87)), ((0, 255), (-128, 127), (88, 91)), ((0, 255), (-128, 127), (92, 95)), ((0, 255), (-128, 127), (96, 99)), ((0, 255), (-128, 127), (100, 103))]

theorem err_run10_0 : errRun ((0, 255), (-128, 127), (72, 75)) = true := by kernel_rfl
theorem err_run10_1 : errRun ((0, 255), (-128, 127), (76, 79)) = true := by kernel_rfl
theorem err_run10_2 : errRun ((0, 255), (-128, 127), (80, 83)) = true := by kernel_rfl
theorem err_run10_3 : errRun ((0, 255), (-128, 127), (84, 87)) = true := by kernel_rfl
theorem err_run10_4 : errRun ((0, 255), (-128, 127), (88, 91)) = true := by kernel_rfl
theorem err_run10_5 : errRun ((0, 255), (-128, 127), (92, 95)) = true := by kernel_rfl
theorem err_run10_6 : errRun ((0, 255), (-128, 127), (96, 99)) = true := by kernel_rfl
theorem err_run10_7 : errRun ((0, 255), (-128, 127), (100, 103)) = true := by kernel_rfl

theorem err_runs10 : ∀ r ∈ errBoxes10, errRun r = true := by
  unfold errBoxes10
  simp only [List.forall_mem_cons]
  exact ⟨err_run10_0, err_run10_1, err_run10_2, err_run10_3, err_run10_4, err_run10_5, err_run10_6, err_run10_7, fun _ h => nomatch h⟩

end Go.Proofs.YtgjhgbhoidnbfaaGreatDoor
