/-
  What is proved here: the rounds of plugboardlaw18.HubsSplit, where the hub is no root and data is expected, are good.
  Conditions: none.
-/
import Derived.Test.YtafkokkcnnfnlaaGreatDoorSDefs
namespace Go.Proofs.YtafkokkcnnfnlaaGreatDoor
open Go.Sy Go.RowKit

set_option maxRecDepth 1000000

theorem sp_2_c0 : ([0, 1, 2].all fun n => roundS (62 + n)) = true := by kernel_rfl
theorem sp_2_c1 : ([3, 4, 5].all fun n => roundS (62 + n)) = true := by kernel_rfl
theorem sp_2_c2 : ([6, 7, 8].all fun n => roundS (62 + n)) = true := by kernel_rfl
theorem sp_2_c3 : ([9, 10, 11].all fun n => roundS (62 + n)) = true := by kernel_rfl
theorem sp_2_c4 : ([12, 13, 14].all fun n => roundS (62 + n)) = true := by kernel_rfl
theorem sp_2_c5 : ([15, 16, 17].all fun n => roundS (62 + n)) = true := by kernel_rfl
theorem sp_2_c6 : ([18, 19, 20].all fun n => roundS (62 + n)) = true := by kernel_rfl
theorem sp_2_c7 : ([21, 22, 23].all fun n => roundS (62 + n)) = true := by kernel_rfl
theorem sp_2_c8 : ([24, 25, 26].all fun n => roundS (62 + n)) = true := by kernel_rfl
theorem sp_2_c9 : ([27, 28, 29].all fun n => roundS (62 + n)) = true := by kernel_rfl
theorem sp_2_c10 : ([30].all fun n => roundS (62 + n)) = true := by kernel_rfl
theorem sp_2 : ((List.range 31).all fun n => roundS (62 + n)) = true := by
  rw [show List.range 31 = [0, 1, 2] ++ [3, 4, 5] ++ [6, 7, 8] ++ [9, 10, 11] ++ [12, 13, 14] ++ [15, 16, 17] ++ [18, 19, 20] ++ [21, 22, 23] ++ [24, 25, 26] ++ [27, 28, 29] ++ [30] from rfl]
  simp only [List.all_append, sp_2_c0, sp_2_c1, sp_2_c2, sp_2_c3, sp_2_c4, sp_2_c5, sp_2_c6, sp_2_c7, sp_2_c8, sp_2_c9, sp_2_c10, Bool.and_true]

end Go.Proofs.YtafkokkcnnfnlaaGreatDoor
