/-
  What is proved here: runs of plugboardlaw18.HubsWake, by the kind of hub.
  Conditions: none.
-/
import Derived.Test.YtgjhgbhoidnbfaaGreatDoorWBase
namespace Go.Proofs.YtgjhgbhoidnbfaaGreatDoor
open Go.Sy Go.RowKit

set_option maxRecDepth 1000000

theorem wake_run2_0 : wakeRun (0, 0, 0, 1) = true := by kernel_rfl
theorem wake_run2_1 : wakeRun (0, 0, 1, 1) = true := by kernel_rfl
theorem wake_run2_2 : wakeRun (0, 0, 2, 1) = true := by kernel_rfl
theorem wake_run2_3 : wakeRun (0, 0, 3, 1) = true := by kernel_rfl
theorem wake_run2_4 : wakeRun (1, 0, 0, 1) = true := by kernel_rfl
theorem wake_run2_5 : wakeRun (1, 0, 1, 1) = true := by kernel_rfl
theorem wake_run2_6 : wakeRun (1, 0, 2, 1) = true := by kernel_rfl
theorem wake_run2_7 : wakeRun (1, 0, 3, 1) = true := by kernel_rfl
theorem wake_run2_8 : wakeRun (1, 0, 4, 1) = true := by kernel_rfl
theorem wake_run2_9 : wakeRun (1, 0, 5, 1) = true := by kernel_rfl
theorem wake_run2_10 : wakeRun (1, 0, 6, 1) = true := by kernel_rfl

theorem wakeBoxes_2 : wakeBoxesH 0 1 = [(0, 0, 0, 1), (0, 0, 1, 1), (0, 0, 2, 1), (0, 0, 3, 1), (1, 0, 0, 1), (1, 0, 1, 1), (1, 0, 2, 1), (1, 0, 3, 1), (1, 0, 4, 1), (1, 0, 5, 1), (1, 0, 6, 1)] := by decide +kernel
theorem wake_runs2 : ∀ r ∈ wakeBoxesH 0 1, wakeRun r = true := by
  rw [wakeBoxes_2]
  simp only [List.forall_mem_cons]
  exact ⟨wake_run2_0, wake_run2_1, wake_run2_2, wake_run2_3, wake_run2_4, wake_run2_5, wake_run2_6, wake_run2_7, wake_run2_8, wake_run2_9, wake_run2_10, fun _ h => nomatch h⟩

end Go.Proofs.YtgjhgbhoidnbfaaGreatDoor
