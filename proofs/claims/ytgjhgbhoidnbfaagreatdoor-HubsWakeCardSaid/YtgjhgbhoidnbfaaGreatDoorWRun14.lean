/-
  What is proved here: runs of plugboardlaw18.HubsWake, by the kind of hub.
  Conditions: none.
-/
import Derived.Test.YtgjhgbhoidnbfaaGreatDoorWBase
namespace Go.Proofs.YtgjhgbhoidnbfaaGreatDoor
open Go.Sy Go.RowKit

set_option maxRecDepth 1000000

theorem wake_run14_0 : wakeRun (0, 0, 0, 7) = true := by kernel_rfl
theorem wake_run14_1 : wakeRun (0, 0, 1, 7) = true := by kernel_rfl
theorem wake_run14_2 : wakeRun (0, 0, 2, 7) = true := by kernel_rfl
theorem wake_run14_3 : wakeRun (0, 0, 3, 7) = true := by kernel_rfl
theorem wake_run14_4 : wakeRun (1, 0, 0, 7) = true := by kernel_rfl
theorem wake_run14_5 : wakeRun (1, 0, 1, 7) = true := by kernel_rfl
theorem wake_run14_6 : wakeRun (1, 0, 2, 7) = true := by kernel_rfl
theorem wake_run14_7 : wakeRun (1, 0, 3, 7) = true := by kernel_rfl
theorem wake_run14_8 : wakeRun (1, 0, 4, 7) = true := by kernel_rfl
theorem wake_run14_9 : wakeRun (1, 0, 5, 7) = true := by kernel_rfl
theorem wake_run14_10 : wakeRun (1, 0, 6, 7) = true := by kernel_rfl

theorem wakeBoxes_14 : wakeBoxesH 0 7 = [(0, 0, 0, 7), (0, 0, 1, 7), (0, 0, 2, 7), (0, 0, 3, 7), (1, 0, 0, 7), (1, 0, 1, 7), (1, 0, 2, 7), (1, 0, 3, 7), (1, 0, 4, 7), (1, 0, 5, 7), (1, 0, 6, 7)] := by decide +kernel
theorem wake_runs14 : ∀ r ∈ wakeBoxesH 0 7, wakeRun r = true := by
  rw [wakeBoxes_14]
  simp only [List.forall_mem_cons]
  exact ⟨wake_run14_0, wake_run14_1, wake_run14_2, wake_run14_3, wake_run14_4, wake_run14_5, wake_run14_6, wake_run14_7, wake_run14_8, wake_run14_9, wake_run14_10, fun _ h => nomatch h⟩

end Go.Proofs.YtgjhgbhoidnbfaaGreatDoor
