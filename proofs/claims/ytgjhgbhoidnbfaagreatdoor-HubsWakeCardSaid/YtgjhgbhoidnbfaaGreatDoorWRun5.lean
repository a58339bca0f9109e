/-
  What is proved here: runs of plugboardlaw18.HubsWake, by the kind of hub.
  Conditions: none.
-/
import Derived.Test.YtgjhgbhoidnbfaaGreatDoorWBase
namespace Go.Proofs.YtgjhgbhoidnbfaaGreatDoor
open Go.Sy Go.RowKit

set_option maxRecDepth 1000000

theorem wake_run5_0 : wakeRun (0, 1, 0, 2) = true := by kernel_rfl
theorem wake_run5_1 : wakeRun (0, 1, 1, 2) = true := by kernel_rfl
theorem wake_run5_2 : wakeRun (0, 1, 2, 2) = true := by kernel_rfl
theorem wake_run5_3 : wakeRun (0, 1, 3, 2) = true := by kernel_rfl
theorem wake_run5_4 : wakeRun (1, 1, 0, 2) = true := by kernel_rfl
theorem wake_run5_5 : wakeRun (1, 1, 1, 2) = true := by kernel_rfl
theorem wake_run5_6 : wakeRun (1, 1, 2, 2) = true := by kernel_rfl
theorem wake_run5_7 : wakeRun (1, 1, 3, 2) = true := by kernel_rfl
theorem wake_run5_8 : wakeRun (1, 1, 4, 2) = true := by kernel_rfl
theorem wake_run5_9 : wakeRun (1, 1, 5, 2) = true := by kernel_rfl
theorem wake_run5_10 : wakeRun (1, 1, 6, 2) = true := by kernel_rfl

theorem wakeBoxes_5 : wakeBoxesH 1 2 = [(0, 1, 0, 2), (0, 1, 1, 2), (0, 1, 2, 2), (0, 1, 3, 2), (1, 1, 0, 2), (1, 1, 1, 2), (1, 1, 2, 2), (1, 1, 3, 2), (1, 1, 4, 2), (1, 1, 5, 2), (1, 1, 6, 2)] := by decide +kernel
theorem wake_runs5 : ∀ r ∈ wakeBoxesH 1 2, wakeRun r = true := by
  rw [wakeBoxes_5]
  simp only [List.forall_mem_cons]
  exact ⟨wake_run5_0, wake_run5_1, wake_run5_2, wake_run5_3, wake_run5_4, wake_run5_5, wake_run5_6, wake_run5_7, wake_run5_8, wake_run5_9, wake_run5_10, fun _ h => nomatch h⟩

end Go.Proofs.YtgjhgbhoidnbfaaGreatDoor
