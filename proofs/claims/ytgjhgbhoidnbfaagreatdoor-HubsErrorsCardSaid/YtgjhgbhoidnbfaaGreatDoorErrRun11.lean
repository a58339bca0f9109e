/-
  What is proved here: runs of plugboardlaw18.HubsErrors, by the speed, the number of ports, and the number of fixed ones.
  Conditions: none.
-/
import Derived.Test.YtgjhgbhoidnbfaaGreatDoorBase
namespace Go.Proofs.YtgjhgbhoidnbfaaGreatDoor
open Go.Sy Go.RowKit

set_option maxRecDepth 1000000

def errBoxes11 : List ((Int × Int) × (Int × Int) × (Int × Int)) := [((0, 255), (-128, 127), (104, 107)), ((0, 255), (-128, 127), (108, 111)), ((0, 255), (-128, 127), (112, 115)), ((0, 255), (-128, 127), (116, 119)), ((0, 255), (-128, 127), (120, 123)), ((0, 255), (-128, 127), (124, 127))]

theorem err_run11_0 : errRun ((0, 255), (-128, 127), (104, 107)) = true := by kernel_rfl
theorem err_run11_1 : errRun ((0, 255), (-128, 127), (108, 111)) = true := by kernel_rfl
theorem err_run11_2 : errRun ((0, 255), (-128, 127), (112, 115)) = true := by kernel_rfl
theorem err_run11_3 : errRun ((0, 255), (-128, 127), (116, 119)) = true := by kernel_rfl
theorem err_run11_4 : errRun ((0, 255), (-128, 127), (120, 123)) = true := by kernel_rfl
theorem err_run11_5 : errRun ((0, 255), (-128, 127), (124, 127)) = true := by kernel_rfl

theorem err_runs11 : ∀ r ∈ errBoxes11, errRun r = true := by
  unfold errBoxes11
  simp only [List.forall_mem_cons]
  exact ⟨err_run11_0, err_run11_1, err_run11_2, err_run11_3, err_run11_4, err_run11_5, fun _ h => nomatch h⟩

end Go.Proofs.YtgjhgbhoidnbfaaGreatDoor
