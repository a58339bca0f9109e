/-
  What is proved here: runs of plugboardlaw18.HubsWake, by the kind of hub.
  Conditions: none.
-/
import Derived.Test.YtgjhgbhoidnbfaaGreatDoorWBase
namespace Go.Proofs.YtgjhgbhoidnbfaaGreatDoor
open Go.Sy Go.RowKit

set_option maxRecDepth 1000000

theorem wake_run13_0 : wakeRun (0, 1, 0, 6) = true := by kernel_rfl
theorem wake_run13_1 : wakeRun (0, 1, 1, 6) = true := by kernel_rfl
theorem wake_run13_2 : wakeRun (0, 1, 2, 6) = true := by kernel_rfl
theorem wake_run13_3 : wakeRun (0, 1, 3, 6) = true := by kernel_rfl
theorem wake_run13_4 : wakeRun (1, 1, 0, 6) = true := by kernel_rfl
theorem wake_run13_5 : wakeRun (1, 1, 1, 6) = true := by kernel_rfl
theorem wake_run13_6 : wakeRun (1, 1, 2, 6) = true := by kernel_rfl
theorem wake_run13_7 : wakeRun (1, 1, 3, 6) = true := by kernel_rfl
theorem wake_run13_8 : wakeRun (1, 1, 4, 6) = true := by kernel_rfl
theorem wake_run13_9 : wakeRun (1, 1, 5, 6) = true := by kernel_rfl
theorem wake_run13_10 : wakeRun (1, 1, 6, 6) = true := by kernel_rfl

theorem wakeBoxes_13 : wakeBoxesH 1 6 = [(0, 1, 0, 6), (0, 1, 1, 6), (0, 1, 2, 6), (0, 1, 3, 6), (1, 1, 0, 6), (1, 1, 1, 6), (1, 1, 2, 6), (1, 1, 3, 6), (1, 1, 4, 6), (1, 1, 5, 6), (1, 1, 6, 6)] := by decide +kernel
theorem wake_runs13 : ∀ r ∈ wakeBoxesH 1 6, wakeRun r = true := by
  rw [wakeBoxes_13]
  simp only [List.forall_mem_cons]
  exact ⟨wake_run13_0, wake_run13_1, wake_run13_2, wake_run13_3, wake_run13_4, wake_run13_5, wake_run13_6, wake_run13_7, wake_run13_8, wake_run13_9, wake_run13_10, fun _ h => nomatch h⟩

end Go.Proofs.YtgjhgbhoidnbfaaGreatDoor
