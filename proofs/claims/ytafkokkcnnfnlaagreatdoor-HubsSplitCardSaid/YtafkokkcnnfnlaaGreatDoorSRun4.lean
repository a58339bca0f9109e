/-
  What is proved here: the rounds of plugboardlaw18.HubsSplit, where the hub is the root and nothing is expected, are good.
  Conditions: none.
-/
import Derived.Test.YtafkokkcnnfnlaaGreatDoorSDefs
namespace Go.Proofs.YtafkokkcnnfnlaaGreatDoor
open Go.Sy Go.RowKit

set_option maxRecDepth 1000000

theorem sp_4_c0 : ([0, 1, 2, 3, 4, 5, 6, 7].all fun n => roundS (124 + n)) = true := by kernel_rfl
theorem sp_4_c1 : ([8, 9, 10, 11, 12, 13, 14, 15].all fun n => roundS (124 + n)) = true := by kernel_rfl
theorem sp_4_c2 : ([16, 17, 18, 19, 20, 21, 22, 23].all fun n => roundS (124 + n)) = true := by kernel_rfl
theorem sp_4_c3 : ([24, 25, 26, 27, 28, 29, 30].all fun n => roundS (124 + n)) = true := by kernel_rfl
theorem sp_4 : ((List.range 31).all fun n => roundS (124 + n)) = true := by
  rw [show List.range 31 = [0, 1, 2, 3, 4, 5, 6, 7] ++ [8, 9, 10, 11, 12, 13, 14, 15] ++ [16, 17, 18, 19, 20, 21, 22, 23] ++ [24, 25, 26, 27, 28, 29, 30] from rfl]
  simp only [List.all_append, sp_4_c0, sp_4_c1, sp_4_c2, sp_4_c3, Bool.and_true]

end Go.Proofs.YtafkokkcnnfnlaaGreatDoor
