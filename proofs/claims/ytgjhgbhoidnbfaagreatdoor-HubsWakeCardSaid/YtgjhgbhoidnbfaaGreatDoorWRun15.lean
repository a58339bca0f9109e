/-
  What is proved here: runs of plugboardlaw18.HubsWake, by the kind of hub.
  Conditions: none.
-/
import Derived.Test.YtgjhgbhoidnbfaaGreatDoorWBase
namespace Go.Proofs.YtgjhgbhoidnbfaaGreatDoor
open Go.Sy Go.RowKit

set_option maxRecDepth 1000000

theorem wake_run15_0 : wakeRun (0, 1, 0, 7) = true := by kernel_rfl
theorem wake_run15_1 : wakeRun (0, 1, 1, 7) = true := by kernel_rfl
theorem wake_run15_2 : wakeRun (0, 1, 2, 7) = true := by kernel_rfl
theorem wake_run15_3 : wakeRun (0, 1, 3, 7) = true := by kernel_rfl
theorem wake_run15_4 : wakeRun (1, 1, 0, 7) = true := by kernel_rfl
theorem wake_run15_5 : wakeRun (1, 1, 1, 7) = true := by kernel_rfl
theorem wake_run15_6 : wakeRun (1, 1, 2, 7) = true := by kernel_rfl
theorem wake_run15_7 : wakeRun (1, 1, 3, 7) = true := by kernel_rfl
theorem wake_run15_8 : wakeRun (1, 1, 4, 7) = true := by kernel_rfl
theorem wake_run15_9 : wakeRun (1, 1, 5, 7) = true := by kernel_rfl
theorem wake_run15_10 : wakeRun (1, 1, 6, 7) = true := by kernel_rfl

theorem wakeBoxes_15 : wakeBoxesH 1 7 = [(0, 1, 0, 7), (0, 1, 1, 7), (0, 1, 2, 7), (0, 1, 3, 7), (1, 1, 0, 7), (1, 1, 1, 7), (1, 1, 2, 7), (1, 1, 3, 7), (1, 1, 4, 7), (1, 1, 5, 7), (1, 1, 6, 7)] := by decide +kernel
theorem wake_runs15 : ∀ r ∈ wakeBoxesH 1 7, wakeRun r = true := by
  rw [wakeBoxes_15]
  simp only [List.forall_mem_cons]
  exact ⟨wake_run15_0, wake_run15_1, wake_run15_2, wake_run15_3, wake_run15_4, wake_run15_5, wake_run15_6, wake_run15_7, wake_run15_8, wake_run15_9, wake_run15_10, fun _ h => nomatch h⟩

end Go.Proofs.YtgjhgbhoidnbfaaGreatDoor
