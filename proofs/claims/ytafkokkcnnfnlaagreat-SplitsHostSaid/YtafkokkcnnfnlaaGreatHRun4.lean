/-
  What is proved here: the rounds of plugboardlaw22.SplitsHost, of kind 2 and direction 0, are good.
  Conditions: none.
-/
import Derived.Test.YtafkokkcnnfnlaaGreatHostDefs
namespace Go.Proofs.YtafkokkcnnfnlaaGreat
open Go.Sy Go.RowKit

set_option maxRecDepth 1000000

theorem rounds_4_0_c0 : ([0, 1, 2, 3, 4, 5, 6, 7, 8, 9, 10, 11, 12, 13, 14, 15, 16, 17, 18, 19].all fun n => roundS (492 + n)) = true := by kernel_rfl
theorem rounds_4_0_c1 : ([20, 21, 22, 23, 24, 25, 26, 27, 28, 29, 30, 31, 32, 33, 34, 35, 36, 37, 38, 39].all fun n => roundS (492 + n)) = true := by kernel_rfl
theorem rounds_4_0_c2 : ([40].all fun n => roundS (492 + n)) = true := by kernel_rfl
theorem rounds_4_0 : ((List.range 41).all fun n => roundS (492 + n)) = true := by
  rw [show List.range 41 = [0, 1, 2, 3, 4, 5, 6, 7, 8, 9, 10, 11, 12, 13, 14, 15, 16, 17, 18, 19] ++ [20, 21, 22, 23, 24, 25, 26, 27, 28, 29, 30, 31, 32, 33, 34, 35, 36, 37, 38, 39] ++ [40] from rfl]
  simp only [List.all_append, rounds_4_0_c0, rounds_4_0_c1, rounds_4_0_c2, Bool.and_true]
theorem rounds_4_1_c0 : ([0, 1, 2, 3, 4].all fun n => roundS (533 + n)) = true := by kernel_rfl
theorem rounds_4_1_c1 : ([5, 6, 7, 8, 9].all fun n => roundS (533 + n)) = true := by kernel_rfl
theorem rounds_4_1_c2 : ([10, 11, 12, 13, 14].all fun n => roundS (533 + n)) = true := by kernel_rfl
theorem rounds_4_1_c3 : ([15, 16, 17, 18, 19].all fun n => roundS (533 + n)) = true := by kernel_rfl
theorem rounds_4_1_c4 : ([20, 21, 22, 23, 24].all fun n => roundS (533 + n)) = true := by kernel_rfl
theorem rounds_4_1_c5 : ([25, 26, 27, 28, 29].all fun n => roundS (533 + n)) = true := by kernel_rfl
theorem rounds_4_1_c6 : ([30, 31, 32, 33, 34].all fun n => roundS (533 + n)) = true := by kernel_rfl
theorem rounds_4_1_c7 : ([35, 36, 37, 38, 39].all fun n => roundS (533 + n)) = true := by kernel_rfl
theorem rounds_4_1_c8 : ([40].all fun n => roundS (533 + n)) = true := by kernel_rfl
theorem rounds_4_1 : ((List.range 41).all fun n => roundS (533 + n)) = true := by
  rw [show List.range 41 = [0, 1, 2, 3, 4] ++ [5, 6, 7, 8, 9] ++ [10, 11, 12, 13, 14] ++ [15, 16, 17, 18, 19] ++ [20, 21, 22, 23, 24] ++ [25, 26, 27, 28, 29] ++ [30, 31, 32, 33, 34] ++ [35, 36, 37, 38, 39] ++ [40] from rfl]
  simp only [List.all_append, rounds_4_1_c0, rounds_4_1_c1, rounds_4_1_c2, rounds_4_1_c3, rounds_4_1_c4, rounds_4_1_c5, rounds_4_1_c6, rounds_4_1_c7, rounds_4_1_c8, Bool.and_true]
theorem rounds_4_2_c0 : ([0, 1, 2, 3, 4, 5, 6, 7, 8, 9, 10, 11, 12, 13, 14, 15, 16, 17, 18, 19].all fun n => roundS (574 + n)) = true := by kernel_rfl
theorem rounds_4_2_c1 : ([20, 21, 22, 23, 24, 25, 26, 27, 28, 29, 30, 31, 32, 33, 34, 35, 36, 37, 38, 39].all fun n => roundS (574 + n)) = true := by kernel_rfl
theorem rounds_4_2_c2 : ([40].all fun n => roundS (574 + n)) = true := by kernel_rfl
theorem rounds_4_2 : ((List.range 41).all fun n => roundS (574 + n)) = true := by
  rw [show List.range 41 = [0, 1, 2, 3, 4, 5, 6, 7, 8, 9, 10, 11, 12, 13, 14, 15, 16, 17, 18, 19] ++ [20, 21, 22, 23, 24, 25, 26, 27, 28, 29, 30, 31, 32, 33, 34, 35, 36, 37, 38, 39] ++ [40] from rfl]
  simp only [List.all_append, rounds_4_2_c0, rounds_4_2_c1, rounds_4_2_c2, Bool.and_true]

end Go.Proofs.YtafkokkcnnfnlaaGreat
