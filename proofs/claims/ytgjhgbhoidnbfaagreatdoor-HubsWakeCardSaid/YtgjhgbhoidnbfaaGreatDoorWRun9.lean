/-
  What is proved here: runs of plugboardlaw18.HubsWake, by the kind of hub.
  Conditions: none.
-/
import Derived.Test.YtgjhgbhoidnbfaaGreatDoorWBase
namespace Go.Proofs.YtgjhgbhoidnbfaaGreatDoor
open Go.Sy Go.RowKit

set_option maxRecDepth 1000000

theorem wake_run9_0 : wakeRun (0, 1, 0, 4) = true := by kernel_rfl
theorem wake_run9_1 : wakeRun (0, 1, 1, 4) = true := by kernel_rfl
theorem wake_run9_2 : wakeRun (0, 1, 2, 4) = true := by kernel_rfl
theorem wake_run9_3 : wakeRun (0, 1, 3, 4) = true := by kernel_rfl
theorem wake_run9_4 : wakeRun (1, 1, 0, 4) = true := by kernel_rfl
theorem wake_run9_5 : wakeRun (1, 1, 1, 4) = true := by kernel_rfl
theorem wake_run9_6 : wakeRun (1, 1, 2, 4) = true := by kernel_rfl
theorem wake_run9_7 : wakeRun (1, 1, 3, 4) = true := by kernel_rfl
theorem wake_run9_8 : wakeRun (1, 1, 4, 4) = true := by kernel_rfl
theorem wake_run9_9 : wakeRun (1, 1, 5, 4) = true := by kernel_rfl
theorem wake_run9_10 : wakeRun (1, 1, 6, 4) = true := by kernel_rfl

theorem wakeBoxes_9 : wakeBoxesH 1 4 = [(0, 1, 0, 4), (0, 1, 1, 4), (0, 1, 2, 4), (0, 1, 3, 4), (1, 1, 0, 4), (1, 1, 1, 4), (1, 1, 2, 4), (1, 1, 3, 4), (1, 1, 4, 4), (1, 1, 5, 4), (1, 1, 6, 4)] := by decide +kernel
theorem wake_runs9 : ∀ r ∈ wakeBoxesH 1 4, wakeRun r = true := by
  rw [wakeBoxes_9]
  simp only [List.forall_mem_cons]
  exact ⟨wake_run9_0, wake_run9_1, wake_run9_2, wake_run9_3, wake_run9_4, wake_run9_5, wake_run9_6, wake_run9_7, wake_run9_8, wake_run9_9, wake_run9_10, fun _ h => nomatch h⟩

end Go.Proofs.YtgjhgbhoidnbfaaGreatDoor
