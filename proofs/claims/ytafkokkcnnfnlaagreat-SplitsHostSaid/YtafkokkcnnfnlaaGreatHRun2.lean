/-
  What is proved here: the rounds of plugboardlaw22.SplitsHost, of kind 1 and direction 0, are good.
  Conditions: none.
-/
import Derived.Test.YtafkokkcnnfnlaaGreatHostDefs
namespace Go.Proofs.YtafkokkcnnfnlaaGreat
open Go.Sy Go.RowKit

set_option maxRecDepth 1000000

theorem rounds_2_0_c0 : ([0, 1, 2, 3, 4, 5, 6, 7, 8, 9, 10, 11, 12, 13, 14, 15, 16, 17, 18, 19].all fun n => roundS (246 + n)) = true := by kernel_rfl
theorem rounds_2_0_c1 : ([20, 21, 22, 23, 24, 25, 26, 27, 28, 29, 30, 31, 32, 33, 34, 35, 36, 37, 38, 39].all fun n => roundS (246 + n)) = true := by kernel_rfl
theorem rounds_2_0_c2 : ([40].all fun n => roundS (246 + n)) = true := by kernel_rfl
theorem rounds_2_0 : ((List.range 41).all fun n => roundS (246 + n)) = true := by
  rw [show List.range 41 = [0, 1, 2, 3, 4, 5, 6, 7, 8, 9, 10, 11, 12, 13, 14, 15, 16, 17, 18, 19] ++ [20, 21, 22, 23, 24, 25, 26, 27, 28, 29, 30, 31, 32, 33, 34, 35, 36, 37, 38, 39] ++ [40] from rfl]
  simp only [List.all_append, rounds_2_0_c0, rounds_2_0_c1, rounds_2_0_c2, Bool.and_true]
theorem rounds_2_1_c0 : ([0, 1].all fun n => roundS (287 + n)) = true := by kernel_rfl
theorem rounds_2_1_c1 : ([2, 3].all fun n => roundS (287 + n)) = true := by kernel_rfl
theorem rounds_2_1_c2 : ([4, 5].all fun n => roundS (287 + n)) = true := by kernel_rfl
theorem rounds_2_1_c3 : ([6, 7].all fun n => roundS (287 + n)) = true := by kernel_rfl
theorem rounds_2_1_c4 : ([8, 9].all fun n => roundS (287 + n)) = true := by kernel_rfl
theorem rounds_2_1_c5 : ([10, 11].all fun n => roundS (287 + n)) = true := by kernel_rfl
theorem rounds_2_1_c6 : ([12, 13].all fun n => roundS (287 + n)) = true := by kernel_rfl
theorem rounds_2_1_c7 : ([14, 15].all fun n => roundS (287 + n)) = true := by kernel_rfl
theorem rounds_2_1_c8 : ([16, 17].all fun n => roundS (287 + n)) = true := by kernel_rfl
theorem rounds_2_1_c9 : ([18, 19].all fun n => roundS (287 + n)) = true := by kernel_rfl
theorem rounds_2_1_c10 : ([20, 21].all fun n => roundS (287 + n)) = true := by kernel_rfl
theorem rounds_2_1_c11 : ([22, 23].all fun n => roundS (287 + n)) = true := by kernel_rfl
theorem rounds_2_1_c12 : ([24, 25].all fun n => roundS (287 + n)) = true := by kernel_rfl
theorem rounds_2_1_c13 : ([26, 27].all fun n => roundS (287 + n)) = true := by kernel_rfl
theorem rounds_2_1_c14 : ([28, 29].all fun n => roundS (287 + n)) = true := by kernel_rfl
theorem rounds_2_1_c15 : ([30, 31].all fun n => roundS (287 + n)) = true := by kernel_rfl
theorem rounds_2_1_c16 : ([32, 33].all fun n => roundS (287 + n)) = true := by kernel_rfl
theorem rounds_2_1_c17 : ([34, 35].all fun n => roundS (287 + n)) = true := by kernel_rfl
theorem rounds_2_1_c18 : ([36, 37].all fun n => roundS (287 + n)) = true := by kernel_rfl
theorem rounds_2_1_c19 : ([38, 39].all fun n => roundS (287 + n)) = true := by kernel_rfl
theorem rounds_2_1_c20 : ([40].all fun n => roundS (287 + n)) = true := by kernel_rfl
theorem rounds_2_1 : ((List.range 41).all fun n => roundS (287 + n)) = true := by
  rw [show List.range 41 = [0, 1] ++ [2, 3] ++ [4, 5] ++ [6, 7] ++ [8, 9] ++ [10, 11] ++ [12, 13] ++ [14, 15] ++ [16, 17] ++ [18, 19] ++ [20, 21] ++ [22, 23] ++ [24, 25] ++ [26, 27] ++ [28, 29] ++ [30, 31] ++ [32, 33] ++ [34, 35] ++ [36, 37] ++ [38, 39] ++ [40] from rfl]
  simp only [List.all_append, rounds_2_1_c0, rounds_2_1_c1, rounds_2_1_c2, rounds_2_1_c3, rounds_2_1_c4, rounds_2_1_c5, rounds_2_1_c6, rounds_2_1_c7, rounds_2_1_c8, rounds_2_1_c9, rounds_2_1_c10, rounds_2_1_c11, rounds_2_1_c12, rounds_2_1_c13, rounds_2_1_c14, rounds_2_1_c15, rounds_2_1_c16, rounds_2_1_c17, rounds_2_1_c18, rounds_2_1_c19, rounds_2_1_c20, Bool.and_true]
theorem rounds_2_2_c0 : ([0, 1, 2, 3, 4, 5, 6, 7, 8, 9, 10, 11, 12, 13, 14, 15, 16, 17, 18, 19].all fun n => roundS (328 + n)) = true := by kernel_rfl
theorem rounds_2_2_c1 : ([20, 21, 22, 23, 24, 25, 26, 27, 28, 29, 30, 31, 32, 33, 34, 35, 36, 37, 38, 39].all fun n => roundS (328 + n)) = true := by kernel_rfl
theorem rounds_2_2_c2 : ([40].all fun n => roundS (328 + n)) = true := by kernel_rfl
theorem rounds_2_2 : ((List.range 41).all fun n => roundS (328 + n)) = true := by
  rw [show List.range 41 = [0, 1, 2, 3, 4, 5, 6, 7, 8, 9, 10, 11, 12, 13, 14, 15, 16, 17, 18, 19] ++ [20, 21, 22, 23, 24, 25, 26, 27, 28, 29, 30, 31, 32, 33, 34, 35, 36, 37, 38, 39] ++ [40] from rfl]
  simp only [List.all_append, rounds_2_2_c0, rounds_2_2_c1, rounds_2_2_c2, Bool.and_true]

end Go.Proofs.YtafkokkcnnfnlaaGreat
