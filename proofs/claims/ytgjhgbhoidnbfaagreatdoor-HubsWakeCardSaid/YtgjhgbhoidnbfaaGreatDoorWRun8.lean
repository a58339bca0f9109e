/-
  What is proved here: runs of plugboardlaw18.HubsWake, by the kind of hub.
  Conditions: none.
-/
import Derived.Test.YtgjhgbhoidnbfaaGreatDoorWBase
namespace Go.Proofs.YtgjhgbhoidnbfaaGreatDoor
open Go.Sy Go.RowKit

set_option maxRecDepth 1000000

theorem wake_run8_0 : wakeRun (0, 0, 0, 4) = true := by kernel_rfl
theorem wake_run8_1 : wakeRun (0, 0, 1, 4) = true := by kernel_rfl
theorem wake_run8_2 : wakeRun (0, 0, 2, 4) = true := by kernel_rfl
theorem wake_run8_3 : wakeRun (0, 0, 3, 4) = true := by kernel_rfl
theorem wake_run8_4 : wakeRun (1, 0, 0, 4) = true := by kernel_rfl
theorem wake_run8_5 : wakeRun (1, 0, 1, 4) = true := by kernel_rfl
theorem wake_run8_6 : wakeRun (1, 0, 2, 4) = true := by kernel_rfl
theorem wake_run8_7 : wakeRun (1, 0, 3, 4) = true := by kernel_rfl
theorem wake_run8_8 : wakeRun (1, 0, 4, 4) = true := by kernel_rfl
theorem wake_run8_9 : wakeRun (1, 0, 5, 4) = true := by kernel_rfl
theorem wake_run8_10 : wakeRun (1, 0, 6, 4) = true := by kernel_rfl

theorem wakeBoxes_8 : wakeBoxesH 0 4 = [(0, 0, 0, 4), (0, 0, 1, 4), (0, 0, 2, 4), (0, 0, 3, 4), (1, 0, 0, 4), (1, 0, 1, 4), (1, 0, 2, 4), (1, 0, 3, 4), (1, 0, 4, 4), (1, 0, 5, 4), (1, 0, 6, 4)] := by decide +kernel
theorem wake_runs8 : ∀ r ∈ wakeBoxesH 0 4, wakeRun r = true := by
  rw [wakeBoxes_8]
  simp only [List.forall_mem_cons]
  exact ⟨wake_run8_0, wake_run8_1, wake_run8_2, wake_run8_3, wake_run8_4, wake_run8_5, wake_run8_6, wake_run8_7, wake_run8_8, wake_run8_9, wake_run8_10, fun _ h => nomatch h⟩

end Go.Proofs.YtgjhgbhoidnbfaaGreatDoor
