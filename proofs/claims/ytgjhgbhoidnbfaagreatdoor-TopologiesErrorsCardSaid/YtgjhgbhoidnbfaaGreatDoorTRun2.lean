/-
  What is proved here: runs of plugboardlaw20.TopologiesErrors, by the number of ports and of hubs.
  Conditions: none.
-/
import Derived.Test.YtgjhgbhoidnbfaaGreatDoorTBase
namespace Go.Proofs.YtgjhgbhoidnbfaaGreatDoor
open Go.Sy Go.RowKit

set_option maxRecDepth 1000000

theorem terr_run2_0_0 : terrRunP (2, 2) 0 0 = true := by kernel_rfl
theorem terr_run2_0_1 : terrRunP (2, 2) 0 1 = true := by kernel_rfl
theorem terr_run2_0_2 : terrRunP (2, 2) 0 2 = true := by kernel_rfl
theorem terr_run2_0_3 : terrRunP (2, 2) 0 3 = true := by kernel_rfl
theorem terr_run2_0_4 : terrRunP (2, 2) 0 4 = true := by kernel_rfl
theorem terr_run2_0_5 : terrRunP (2, 2) 0 5 = true := by kernel_rfl
theorem terr_run2_1_0 : terrRunP (2, 2) 1 0 = true := by kernel_rfl
theorem terr_run2_1_1 : terrRunP (2, 2) 1 1 = true := by kernel_rfl
theorem terr_run2_1_2 : terrRunP (2, 2) 1 2 = true := by kernel_rfl
theorem terr_run2_1_3 : terrRunP (2, 2) 1 3 = true := by kernel_rfl
theorem terr_run2_1_4 : terrRunP (2, 2) 1 4 = true := by kernel_rfl
theorem terr_run2_1_5 : terrRunP (2, 2) 1 5 = true := by kernel_rfl
theorem terr_run2_2_0 : terrRunP (2, 2) 2 0 = true := by kernel_rfl
theorem terr_run2_2_1 : terrRunP (2, 2) 2 1 = true := by kernel_rfl
theorem terr_run2_2_2 : terrRunP (2, 2) 2 2 = true := by kernel_rfl
theorem terr_run2_2_3 : terrRunP (2, 2) 2 3 = true := by kernel_rfl
theorem terr_run2_2_4 : terrRunP (2, 2) 2 4 = true := by kernel_rfl
theorem terr_run2_2_5 : terrRunP (2, 2) 2 5 = true := by kernel_rfl
theorem terr_run2_3_0 : terrRunP (2, 2) 3 0 = true := by kernel_rfl
theorem terr_run2_3_1 : terrRunP (2, 2) 3 1 = true := by kernel_rfl
theorem terr_run2_3_2 : terrRunP (2, 2) 3 2 = true := by kernel_rfl
theorem terr_run2_3_3 : terrRunP (2, 2) 3 3 = true := by kernel_rfl
theorem terr_run2_3_4 : terrRunP (2, 2) 3 4 = true := by kernel_rfl
theorem terr_run2_3_5 : terrRunP (2, 2) 3 5 = true := by kernel_rfl
theorem terr_run2_4_0 : terrRunP (2, 2) 4 0 = true := by kernel_rfl
theorem terr_run2_4_1 : terrRunP (2, 2) 4 1 = true := by kernel_rfl
theorem terr_run2_4_2 : terrRunP (2, 2) 4 2 = true := by kernel_rfl
theorem terr_run2_4_3 : terrRunP (2, 2) 4 3 = true := by kernel_rfl
theorem terr_run2_4_4 : terrRunP (2, 2) 4 4 = true := by kernel_rfl
theorem terr_run2_4_5 : terrRunP (2, 2) 4 5 = true := by kernel_rfl

theorem terr_run2 : ∀ a b : Nat, a < 5 → b < 6 → terrRunP (2, 2) a b = true
  | 0, 0, _, _ => terr_run2_0_0
  | 0, 1, _, _ => terr_run2_0_1
  | 0, 2, _, _ => terr_run2_0_2
  | 0, 3, _, _ => terr_run2_0_3
  | 0, 4, _, _ => terr_run2_0_4
  | 0, 5, _, _ => terr_run2_0_5
  | 1, 0, _, _ => terr_run2_1_0
  | 1, 1, _, _ => terr_run2_1_1
  | 1, 2, _, _ => terr_run2_1_2
  | 1, 3, _, _ => terr_run2_1_3
  | 1, 4, _, _ => terr_run2_1_4
  | 1, 5, _, _ => terr_run2_1_5
  | 2, 0, _, _ => terr_run2_2_0
  | 2, 1, _, _ => terr_run2_2_1
  | 2, 2, _, _ => terr_run2_2_2
  | 2, 3, _, _ => terr_run2_2_3
  | 2, 4, _, _ => terr_run2_2_4
  | 2, 5, _, _ => terr_run2_2_5
  | 3, 0, _, _ => terr_run2_3_0
  | 3, 1, _, _ => terr_run2_3_1
  | 3, 2, _, _ => terr_run2_3_2
  | 3, 3, _, _ => terr_run2_3_3
  | 3, 4, _, _ => terr_run2_3_4
  | 3, 5, _, _ => terr_run2_3_5
  | 4, 0, _, _ => terr_run2_4_0
  | 4, 1, _, _ => terr_run2_4_1
  | 4, 2, _, _ => terr_run2_4_2
  | 4, 3, _, _ => terr_run2_4_3
  | 4, 4, _, _ => terr_run2_4_4
  | 4, 5, _, _ => terr_run2_4_5
  | a + 5, _, h, _ => absurd h (by omega)
  | _, b + 6, _, h => absurd h (by omega)

end Go.Proofs.YtgjhgbhoidnbfaaGreatDoor
