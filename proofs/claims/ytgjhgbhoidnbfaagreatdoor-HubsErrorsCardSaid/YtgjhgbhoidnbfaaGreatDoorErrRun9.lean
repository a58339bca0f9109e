/-
  What is proved here: runs of plugboardlaw18.HubsErrors, by the speed, the number of ports, and the number of fixed ones.
  Conditions: none.
-/
import Derived.Test.YtgjhgbhoidnbfaaGreatDoorBase
namespace Go.Proofs.YtgjhgbhoidnbfaaGreatDoor
open Go.Sy Go.RowKit

set_option maxRecDepth 1000000

def errBoxes9 : List ((Int × Int) × (Int × Int) × (Int × Int)) := [((0, 255), (-128, 127), (40, 43)), ((0, 255), (-128, 127), (44, 47)), ((0, 255), (-128, 127), (48, 51)), ((0, 255), (-128, 127), (52, 55)), ((0, 255), (-128, 127), (56, 59)), ((0, 255), (-128, 127), (60, 63)), ((0, 255), (-128, 127), (64, 67)), ((0, 255), (-128, 127), (68, 71))]

theorem err_run9_0 : errRun ((0, 255), (-128, 127), (40, 43)) = true := by kernel_rfl
theorem err_run9_1 : errRun ((0, 255), (-128, 127), (44, 47)) = true := by kernel_rfl
theorem err_run9_2 : errRun ((0, 255), (-128, 127), (48, 51)) = true := by kernel_rfl
theorem err_run9_3 : errRun ((0, 255), (-128, 127), (52, 55)) = true := by kernel_rfl
theorem err_run9_4 : errRun ((0, 255), (-128, 127), (56, 59)) = true := by kernel_rfl
theorem err_run9_5 : errRun ((0, 255), (-128, 127), (60, 63)) = true := by kernel_rfl
theorem err_run9_6 : errRun ((0, 255), (-128, 127), (64, 67)) = true := by kernel_rfl
theorem err_run9_7 : errRun ((0, 255), (-128, 127), (68, 71)) = true := by kernel_rfl

theorem err_runs9 : ∀ r ∈ errBoxes9, errRun r = true := by
  unfold errBoxes9
  simp only [List.forall_mem_cons]
  exact ⟨err_run9_0, err_run9_1, err_run9_2, err_run9_3, err_run9_4, err_run9_5, err_run9_6, err_run9_7, fun _ h => nomatch h⟩

end Go.Proofs.YtgjhgbhoidnbfaaGreatDoor
