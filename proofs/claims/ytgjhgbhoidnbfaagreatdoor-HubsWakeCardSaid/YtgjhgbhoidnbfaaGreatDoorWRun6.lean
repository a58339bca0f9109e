/-
  What is proved here: runs of plugboardlaw18.HubsWake, by the kind of hub.
  Conditions: none.
-/
import Derived.Test.YtgjhgbhoidnbfaaGreatDoorWBase
namespace Go.Proofs.YtgjhgbhoidnbfaaGreatDoor
open Go.Sy Go.RowKit

set_option maxRecDepth 1000000

theorem wake_run6_0 : wakeRun (0, 0, 0, 3) = true := by kernel_rfl
theorem wake_run6_1 : wakeRun (0, 0, 1, 3) = true := by kernel_rfl
theorem wake_run6_2 : wakeRun (0, 0, 2, 3) = true := by kernel_rfl
theorem wake_run6_3 : wakeRun (0, 0, 3, 3) = true := by kernel_rfl
theorem wake_run6_4 : wakeRun (1, 0, 0, 3) = true := by kernel_rfl
theorem wake_run6_5 : wakeRun (1, 0, 1, 3) = true := by kernel_rfl
theorem wake_run6_6 : wakeRun (1, 0, 2, 3) = true := by kernel_rfl
theorem wake_run6_7 : wakeRun (1, 0, 3, 3) = true := by kernel_rfl
theorem wake_run6_8 : wakeRun (1, 0, 4, 3) = true := by kernel_rfl
theorem wake_run6_9 : wakeRun (1, 0, 5, 3) = true := by kernel_rfl
theorem wake_run6_10 : wakeRun (1, 0, 6, 3) = true := by kernel_rfl

theorem wakeBoxes_6 : wakeBoxesH 0 3 = [(0, 0, 0, 3), (0, 0, 1, 3), (0, 0, 2, 3), (0, 0, 3, 3), (1, 0, 0, 3), (1, 0, 1, 3), (1, 0, 2, 3), (1, 0, 3, 3), (1, 0, 4, 3), (1, 0, 5, 3), (1, 0, 6, 3)] := by decide +kernel
theorem wake_runs6 : ∀ r ∈ wakeBoxesH 0 3, wakeRun r = true := by
  rw [wakeBoxes_6]
  simp only [List.forall_mem_cons]
  exact ⟨wake_run6_0, wake_run6_1, wake_run6_2, wake_run6_3, wake_run6_4, wake_run6_5, wake_run6_6, wake_run6_7, wake_run6_8, wake_run6_9, wake_run6_10, fun _ h => nomatch h⟩

end Go.Proofs.YtgjhgbhoidnbfaaGreatDoor
