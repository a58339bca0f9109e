/-
  What is proved here: runs of plugboardlaw18.HubsWake, by the kind of hub.
  Conditions: none.
-/
import Derived.Test.YtgjhgbhoidnbfaaGreatDoorWBase
namespace Go.Proofs.YtgjhgbhoidnbfaaGreatDoor
open Go.Sy Go.RowKit

set_option maxRecDepth 1000000

theorem wake_run11_0 : wakeRun (0, 1, 0, 5) = true := by kernel_rfl
theorem wake_run11_1 : wakeRun (0, 1, 1, 5) = true := by kernel_rfl
theorem wake_run11_2 : wakeRun (0, 1, 2, 5) = true := by kernel_rfl
theorem wake_run11_3 : wakeRun (0, 1, 3, 5) = true := by kernel_rfl
theorem wake_run11_4 : wakeRun (1, 1, 0, 5) = true := by kernel_rfl
theorem wake_run11_5 : wakeRun (1, 1, 1, 5) = true := by kernel_rfl
theorem wake_run11_6 : wakeRun (1, 1, 2, 5) = true := by kernel_rfl
theorem wake_run11_7 : wakeRun (1, 1, 3, 5) = true := by kernel_rfl
theorem wake_run11_8 : wakeRun (1, 1, 4, 5) = true := by kernel_rfl
theorem wake_run11_9 : wakeRun (1, 1, 5, 5) = true := by kernel_rfl
theorem wake_run11_10 : wakeRun (1, 1, 6, 5) = true := by kernel_rfl

theorem wakeBoxes_11 : wakeBoxesH 1 5 = [(0, 1, 0, 5), (0, 1, 1, 5), (0, 1, 2, 5), (0, 1, 3, 5), (1, 1, 0, 5), (1, 1, 1, 5), (1, 1, 2, 5), (1, 1, 3, 5), (1, 1, 4, 5), (1, 1, 5, 5), (1, 1, 6, 5)] := by decide +kernel
theorem wake_runs11 : ∀ r ∈ wakeBoxesH 1 5, wakeRun r = true := by
  rw [wakeBoxes_11]
  simp only [List.forall_mem_cons]
  exact ⟨wake_run11_0, wake_run11_1, wake_run11_2, wake_run11_3, wake_run11_4, wake_run11_5, wake_run11_6, wake_run11_7, wake_run11_8, wake_run11_9, wake_run11_10, fun _ h => nomatch h⟩

end Go.Proofs.YtgjhgbhoidnbfaaGreatDoor
