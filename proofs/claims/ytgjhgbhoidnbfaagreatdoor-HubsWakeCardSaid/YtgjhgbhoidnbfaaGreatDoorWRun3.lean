/-
  What is proved here: runs of plugboardlaw18.HubsWake, by the kind of hub.
  Conditions: none.
-/
import Derived.Test.YtgjhgbhoidnbfaaGreatDoorWBase
namespace Go.Proofs.YtgjhgbhoidnbfaaGreatDoor
open Go.Sy Go.RowKit

set_option maxRecDepth 1000000

theorem wake_run3_0 : wakeRun (0, 1, 0, 1) = true := by kernel_rfl
theorem wake_run3_1 : wakeRun (0, 1, 1, 1) = true := by kernel_rfl
theorem wake_run3_2 : wakeRun (0, 1, 2, 1) = true := by kernel_rfl
theorem wake_run3_3 : wakeRun (0, 1, 3, 1) = true := by kernel_rfl
theorem wake_run3_4 : wakeRun (1, 1, 0, 1) = true := by kernel_rfl
theorem wake_run3_5 : wakeRun (1, 1, 1, 1) = true := by kernel_rfl
theorem wake_run3_6 : wakeRun (1, 1, 2, 1) = true := by kernel_rfl
theorem wake_run3_7 : wakeRun (1, 1, 3, 1) = true := by kernel_rfl
theorem wake_run3_8 : wakeRun (1, 1, 4, 1) = true := by kernel_rfl
theorem wake_run3_9 : wakeRun (1, 1, 5, 1) = true := by kernel_rfl
theorem wake_run3_10 : wakeRun (1, 1, 6, 1) = true := by kernel_rfl

theorem wakeBoxes_3 : wakeBoxesH 1 1 = [(0, 1, 0, 1), (0, 1, 1, 1), (0, 1, 2, 1), (0, 1, 3, 1), (1, 1, 0, 1), (1, 1, 1, 1), (1, 1, 2, 1), (1, 1, 3, 1), (1, 1, 4, 1), (1, 1, 5, 1), (1, 1, 6, 1)] := by decide +kernel
theorem wake_runs3 : ∀ r ∈ wakeBoxesH 1 1, wakeRun r = true := by
  rw [wakeBoxes_3]
  simp only [List.forall_mem_cons]
  exact ⟨wake_run3_0, wake_run3_1, wake_run3_2, wake_run3_3, wake_run3_4, wake_run3_5, wake_run3_6, wake_run3_7, wake_run3_8, wake_run3_9, wake_run3_10, fun _ h => nomatch h⟩

end Go.Proofs.YtgjhgbhoidnbfaaGreatDoor
