/-
  What is proved here: runs of plugboardlaw18.HubsWake, by the kind of hub.
  Conditions: none.
-/
import Derived.Test.YtgjhgbhoidnbfaaGreatDoorWBase
namespace Go.Proofs.YtgjhgbhoidnbfaaGreatDoor
open Go.Sy Go.RowKit

set_option maxRecDepth 1000000

theorem wake_run0_0 : wakeRun (0, 0, 0, 0) = true := by kernel_rfl
theorem wake_run0_1 : wakeRun (0, 0, 1, 0) = true := by kernel_rfl
theorem wake_run0_2 : wakeRun (0, 0, 2, 0) = true := by kernel_rfl
theorem wake_run0_3 : wakeRun (0, 0, 3, 0) = true := by kernel_rfl
theorem wake_run0_4 : wakeRun (1, 0, 0, 0) = true := by kernel_rfl
theorem wake_run0_5 : wakeRun (1, 0, 1, 0) = true := by kernel_rfl
theorem wake_run0_6 : wakeRun (1, 0, 2, 0) = true := by kernel_rfl
theorem wake_run0_7 : wakeRun (1, 0, 3, 0) = true := by kernel_rfl
theorem wake_run0_8 : wakeRun (1, 0, 4, 0) = true := by kernel_rfl
theorem wake_run0_9 : wakeRun (1, 0, 5, 0) = true := by kernel_rfl
theorem wake_run0_10 : wakeRun (1, 0, 6, 0) = true := by kernel_rfl

theorem wakeBoxes_0 : wakeBoxesH 0 0 = [(0, 0, 0, 0), (0, 0, 1, 0), (0, 0, 2, 0), (0, 0, 3, 0), (1, 0, 0, 0), (1, 0, 1, 0), (1, 0, 2, 0), (1, 0, 3, 0), (1, 0, 4, 0), (1, 0, 5, 0), (1, 0, 6, 0)] := by decide +kernel
theorem wake_runs0 : ∀ r ∈ wakeBoxesH 0 0, wakeRun r = true := by
  rw [wakeBoxes_0]
  simp only [List.forall_mem_cons]
  exact ⟨wake_run0_0, wake_run0_1, wake_run0_2, wake_run0_3, wake_run0_4, wake_run0_5, wake_run0_6, wake_run0_7, wake_run0_8, wake_run0_9, wake_run0_10, fun _ h => nomatch h⟩

end Go.Proofs.YtgjhgbhoidnbfaaGreatDoor
