/-
  What is proved here: the rounds of plugboardlaw41.SerialsNotices from the heads 12 to 23 are good.
  Conditions: none.
-/
import Derived.Test.YtjbkbapndoacpaaNDefs
namespace Go.Proofs.Ytjbkbapndoacpaa
open Go.Sy Go.RowKit

set_option maxRecDepth 1000000

theorem no_1_0 : ([0, 1].all fun n => roundN (12 + n)) = true := by kernel_rfl
theorem no_1_1 : ([2, 3].all fun n => roundN (12 + n)) = true := by kernel_rfl
theorem no_1_2 : ([4, 5].all fun n => roundN (12 + n)) = true := by kernel_rfl
theorem no_1_3 : ([6, 7].all fun n => roundN (12 + n)) = true := by kernel_rfl
theorem no_1_4 : ([8, 9].all fun n => roundN (12 + n)) = true := by kernel_rfl
theorem no_1_5 : ([10, 11].all fun n => roundN (12 + n)) = true := by kernel_rfl
theorem no_1 : ((List.range 12).all fun n => roundN (12 + n)) = true := by
  rw [show List.range 12 = [0, 1] ++ [2, 3] ++ [4, 5] ++ [6, 7] ++ [8, 9] ++ [10, 11] from rfl]
  simp only [List.all_append, no_1_0, no_1_1, no_1_2, no_1_3, no_1_4, no_1_5, Bool.and_true]

end Go.Proofs.Ytjbkbapndoacpaa
