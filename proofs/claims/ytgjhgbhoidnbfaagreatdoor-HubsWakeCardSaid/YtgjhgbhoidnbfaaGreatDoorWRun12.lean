/-
  What is proved here: runs of plugboardlaw18.HubsWake, by the kind of hub.
  Conditions: none.
-/
import Derived.Test.YtgjhgbhoidnbfaaGreatDoorWBase
namespace Go.Proofs.YtgjhgbhoidnbfaaGreatDoor
open Go.Sy Go.RowKit

set_option maxRecDepth 1000000

theorem wake_run12_0 : wakeRun (0, 0, 0, 6) = true := by kernel_rfl
theorem wake_run12_1 : wakeRun (0, 0, 1, 6) = true := by kernel_rfl
theorem wake_run12_2 : wakeRun (0, 0, 2, 6) = true := by kernel_rfl
theorem wake_run12_3 : wakeRun (0, 0, 3, 6) = true := by kernel_rfl
theorem wake_run12_4 : wakeRun (1, 0, 0, 6) = true := by kernel_rfl
theorem wake_run12_5 : wakeRun (1, 0, 1, 6) = true := by kernel_rfl
theorem wake_run12_6 : wakeRun (1, 0, 2, 6) = true := by kernel_rfl
theorem wake_run12_7 : wakeRun (1, 0, 3, 6) = true := by kernel_rfl
theorem wake_run12_8 : wakeRun (1, 0, 4, 6) = true := by kernel_rfl
theorem wake_run12_9 : wakeRun (1, 0, 5, 6) = true := by kernel_rfl
theorem wake_run12_10 : wakeRun (1, 0, 6, 6) = true := by kernel_rfl

theorem wakeBoxes_12 : wakeBoxesH 0 6 = [(0, 0, 0, 6), (0, 0, 1, 6), (0, 0, 2, 6), (0, 0, 3, 6), (1, 0, 0, 6), (1, 0, 1, 6), (1, 0, 2, 6), (1, 0, 3, 6), (1, 0, 4, 6), (1, 0, 5, 6), (1, 0, 6, 6)] := by decide +kernel
theorem wake_runs12 : ∀ r ∈ wakeBoxesH 0 6, wakeRun r = true := by
  rw [wakeBoxes_12]
  simp only [List.forall_mem_cons]
  exact ⟨wake_run12_0, wake_run12_1, wake_run12_2, wake_run12_3, wake_run12_4, wake_run12_5, wake_run12_6, wake_run12_7, wake_run12_8, wake_run12_9, wake_run12_10, fun _ h => nomatch h⟩

end Go.Proofs.YtgjhgbhoidnbfaaGreatDoor
