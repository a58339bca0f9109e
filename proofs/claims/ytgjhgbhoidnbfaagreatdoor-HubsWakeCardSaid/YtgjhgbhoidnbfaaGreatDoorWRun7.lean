/-
  What is proved here: runs of plugboardlaw18.HubsWake, by the kind of hub.
  Conditions: none.
-/
import Derived.Test.YtgjhgbhoidnbfaaGreatDoorWBase
namespace Go.Proofs.YtgjhgbhoidnbfaaGreatDoor
open Go.Sy Go.RowKit

set_option maxRecDepth 1000000

theorem wake_run7_0 : wakeRun (0, 1, 0, 3) = true := by kernel_rfl
theorem wake_run7_1 : wakeRun (0, 1, 1, 3) = true := by kernel_rfl
theorem wake_run7_2 : wakeRun (0, 1, 2, 3) = true := by kernel_rfl
theorem wake_run7_3 : wakeRun (0, 1, 3, 3) = true := by kernel_rfl
theorem wake_run7_4 : wakeRun (1, 1, 0, 3) = true := by kernel_rfl
theorem wake_run7_5 : wakeRun (1, 1, 1, 3) = true := by kernel_rfl
theorem wake_run7_6 : wakeRun (1, 1, 2, 3) = true := by kernel_rfl
theorem wake_run7_7 : wakeRun (1, 1, 3, 3) = true := by kernel_rfl
theorem wake_run7_8 : wakeRun (1, 1, 4, 3) = true := by kernel_rfl
theorem wake_run7_9 : wakeRun (1, 1, 5, 3) = true := by kernel_rfl
theorem wake_run7_10 : wakeRun (1, 1, 6, 3) = true := by kernel_rfl

theorem wakeBoxes_7 : wakeBoxesH 1 3 = [(0, 1, 0, 3), (0, 1, 1, 3), (0, 1, 2, 3), (0, 1, 3, 3), (1, 1, 0, 3), (1, 1, 1, 3), (1, 1, 2, 3), (1, 1, 3, 3), (1, 1, 4, 3), (1, 1, 5, 3), (1, 1, 6, 3)] := by decide +kernel
theorem wake_runs7 : ∀ r ∈ wakeBoxesH 1 3, wakeRun r = true := by
  rw [wakeBoxes_7]
  simp only [List.forall_mem_cons]
  exact ⟨wake_run7_0, wake_run7_1, wake_run7_2, wake_run7_3, wake_run7_4, wake_run7_5, wake_run7_6, wake_run7_7, wake_run7_8, wake_run7_9, wake_run7_10, fun _ h => nomatch h⟩

end Go.Proofs.YtgjhgbhoidnbfaaGreatDoor
