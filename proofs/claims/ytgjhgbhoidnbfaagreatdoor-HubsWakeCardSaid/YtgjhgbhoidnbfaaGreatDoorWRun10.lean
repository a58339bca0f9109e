/-
  What is proved here: runs of plugboardlaw18.HubsWake, by the kind of hub.
  Conditions: none.
-/
import Derived.Test.YtgjhgbhoidnbfaaGreatDoorWBase
namespace Go.Proofs.YtgjhgbhoidnbfaaGreatDoor
open Go.Sy Go.RowKit

set_option maxRecDepth 1000000

theorem wake_run10_0 : wakeRun (0, 0, 0, 5) = true := by kernel_rfl
theorem wake_run10_1 : wakeRun (0, 0, 1, 5) = true := by kernel_rfl
theorem wake_run10_2 : wakeRun (0, 0, 2, 5) = true := by kernel_rfl
theorem wake_run10_3 : wakeRun (0, 0, 3, 5) = true := by kernel_rfl
theorem wake_run10_4 : wakeRun (1, 0, 0, 5) = true := by kernel_rfl
theorem wake_run10_5 : wakeRun (1, 0, 1, 5) = true := by kernel_rfl
theorem wake_run10_6 : wakeRun (1, 0, 2, 5) = true := by kernel_rfl
theorem wake_run10_7 : wakeRun (1, 0, 3, 5) = true := by kernel_rfl
theorem wake_run10_8 : wakeRun (1, 0, 4, 5) = true := by kernel_rfl
theorem wake_run10_9 : wakeRun (1, 0, 5, 5) = true := by kernel_rfl
theorem wake_run10_10 : wakeRun (1, 0, 6, 5) = true := by kernel_rfl

theorem wakeBoxes_10 : wakeBoxesH 0 5 = [(0, 0, 0, 5), (0, 0, 1, 5), (0, 0, 2, 5), (0, 0, 3, 5), (1, 0, 0, 5), (1, 0, 1, 5), (1, 0, 2, 5), (1, 0, 3, 5), (1, 0, 4, 5), (1, 0, 5, 5), (1, 0, 6, 5)] := by decide +kernel
theorem wake_runs10 : ∀ r ∈ wakeBoxesH 0 5, wakeRun r = true := by
  rw [wakeBoxes_10]
  simp only [List.forall_mem_cons]
  exact ⟨wake_run10_0, wake_run10_1, wake_run10_2, wake_run10_3, wake_run10_4, wake_run10_5, wake_run10_6, wake_run10_7, wake_run10_8, wake_run10_9, wake_run10_10, fun _ h => nomatch h⟩

end Go.Proofs.YtgjhgbhoidnbfaaGreatDoor
