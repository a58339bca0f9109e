/-
  What is proved here: runs of plugboardlaw18.HubsWake, by the kind of hub.
  Conditions: none.
-/
import Derived.Test.YtgjhgbhoidnbfaaGreatDoorWBase
namespace Go.Proofs.YtgjhgbhoidnbfaaGreatDoor
open Go.Sy Go.RowKit

set_option maxRecDepth 1000000

theorem wake_run1_0 : wakeRun (0, 1, 0, 0) = true := by kernel_rfl
theorem wake_run1_1 : wakeRun (0, 1, 1, 0) = true := by kernel_rfl
theorem wake_run1_2 : wakeRun (0, 1, 2, 0) = true := by kernel_rfl
theorem wake_run1_3 : wakeRun (0, 1, 3, 0) = true := by kernel_rfl
theorem wake_run1_4 : wakeRun (1, 1, 0, 0) = true := by kernel_rfl
theorem wake_run1_5 : wakeRun (1, 1, 1, 0) = true := by kernel_rfl
theorem wake_run1_6 : wakeRun (1, 1, 2, 0) = true := by kernel_rfl
theorem wake_run1_7 : wakeRun (1, 1, 3, 0) = true := by kernel_rfl
theorem wake_run1_8 : wakeRun (1, 1, 4, 0) = true := by kernel_rfl
theorem wake_run1_9 : wakeRun (1, 1, 5, 0) = true := by kernel_rfl
theorem wake_run1_10 : wakeRun (1, 1, 6, 0) = true := by kernel_rfl

theorem wakeBoxes_1 : wakeBoxesH 1 0 = [(0, 1, 0, 0), (0, 1, 1, 0), (0, 1, 2, 0), (0, 1, 3, 0), (1, 1, 0, 0), (1, 1, 1, 0), (1, 1, 2, 0), (1, 1, 3, 0), (1, 1, 4, 0), (1, 1, 5, 0), (1, 1, 6, 0)] := by decide +kernel
theorem wake_runs1 : ∀ r ∈ wakeBoxesH 1 0, wakeRun r = true := by
  rw [wakeBoxes_1]
  simp only [List.forall_mem_cons]
  exact ⟨wake_run1_0, wake_run1_1, wake_run1_2, wake_run1_3, wake_run1_4, wake_run1_5, wake_run1_6, wake_run1_7, wake_run1_8, wake_run1_9, wake_run1_10, fun _ h => nomatch h⟩

end Go.Proofs.YtgjhgbhoidnbfaaGreatDoor
