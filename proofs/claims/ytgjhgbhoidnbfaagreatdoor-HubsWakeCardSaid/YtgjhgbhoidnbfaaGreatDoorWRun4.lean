/-
  What is proved here: runs of plugboardlaw18.HubsWake, by the kind of hub.
  Conditions: none.
-/
import Derived.Test.YtgjhgbhoidnbfaaGreatDoorWBase
namespace Go.Proofs.YtgjhgbhoidnbfaaGreatDoor
open Go.Sy Go.RowKit

set_option maxRecDepth 1000000

theorem wake_run4_0 : wakeRun (0, 0, 0, 2) = true := by kernel_rfl
theorem wake_run4_1 : wakeRun (0, 0, 1, 2) = true := by kernel_rfl
theorem wake_run4_2 : wakeRun (0, 0, 2, 2) = true := by kernel_rfl
theorem wake_run4_3 : wakeRun (0, 0, 3, 2) = true := by kernel_rfl
theorem wake_run4_4 : wakeRun (1, 0, 0, 2) = true := by kernel_rfl
theorem wake_run4_5 : wakeRun (1, 0, 1, 2) = true := by kernel_rfl
theorem wake_run4_6 : wakeRun (1, 0, 2, 2) = true := by kernel_rfl
theorem wake_run4_7 : wakeRun (1, 0, 3, 2) = true := by kernel_rfl
theorem wake_run4_8 : wakeRun (1, 0, 4, 2) = true := by kernel_rfl
theorem wake_run4_9 : wakeRun (1, 0, 5, 2) = true := by kernel_rfl
theorem wake_run4_10 : wakeRun (1, 0, 6, 2) = true := by kernel_rfl

theorem wakeBoxes_4 : wakeBoxesH 0 2 = [(0, 0, 0, 2), (0, 0, 1, 2), (0, 0, 2, 2), (0, 0, 3, 2), (1, 0, 0, 2), (1, 0, 1, 2), (1, 0, 2, 2), (1, 0, 3, 2), (1, 0, 4, 2), (1, 0, 5, 2), (1, 0, 6, 2)] := by decide +kernel
theorem wake_runs4 : ∀ r ∈ wakeBoxesH 0 2, wakeRun r = true := by
  rw [wakeBoxes_4]
  simp only [List.forall_mem_cons]
  exact ⟨wake_run4_0, wake_run4_1, wake_run4_2, wake_run4_3, wake_run4_4, wake_run4_5, wake_run4_6, wake_run4_7, wake_run4_8, wake_run4_9, wake_run4_10, fun _ h => nomatch h⟩

end Go.Proofs.YtgjhgbhoidnbfaaGreatDoor
