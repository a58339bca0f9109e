/-
  What is proved here: runs of plugboardlaw18.HubsErrors, by the speed, the number of ports, and the number of fixed ones.
  Conditions: none.
-/
import Derived.Test.YtgjhgbhoidnbfaaGreatDoorBase
namespace Go.Proofs.YtgjhgbhoidnbfaaGreatDoor
open Go.Sy Go.RowKit

set_option maxRecDepth 1000000

def errBoxes8 : List ((Int × Int) × (Int × Int) × (Int × Int)) := [((0, 255), (-128, 127), (8, 11)), ((0, 255), (-128, 127), (12, 15)), ((0, 255), (-128, 127), (16, 19)), ((0, 255), (-128, 127), (20, 23)), ((0, 255), (-128, 127), (24, 27)), ((0, 255), (-128, 127), (28, 31)), ((0, 255), (-128, 127), (32, 35)), ((0, 255), (-128, 127), (36, 39))]

theorem err_run8_0 : errRun ((0, 255), (-128, 127), (8, 11)) = true := by kernel_rfl
theorem err_run8_1 : errRun ((0, 255), (-128, 127), (12, 15)) = true := by kernel_rfl
theorem err_run8_2 : errRun ((0, 255), (-128, 127), (16, 19)) = true := by kernel_rfl
theorem err_run8_3 : errRun ((0, 255), (-128, 127), (20, 23)) = true := by kernel_rfl
theorem err_run8_4 : errRun ((0, 255), (-128, 127), (24, 27)) = true := by kernel_rfl
theorem err_run8_5 : errRun ((0, 255), (-128, 127), (28, 31)) = true := by kernel_rfl
theorem err_run8_6 : errRun ((0, 255), (-128, 127), (32, 35)) = true := by kernel_rfl
theorem err_run8_7 : errRun ((0, 255), (-128, 127), (36, 39)) = true := by kernel_rfl

theorem err_runs8 : ∀ r ∈ errBoxes8, errRun r = true := by
  unfold errBoxes8
  simp only [List.forall_mem_cons]
  exact ⟨err_run8_0, err_run8_1, err_run8_2, err_run8_3, err_run8_4, err_run8_5, err_run8_6, err_run8_7, fun _ h => nomatch h⟩

end Go.Proofs.YtgjhgbhoidnbfaaGreatDoor
