/-
  What is proved here: the rounds of plugboardlaw41.SerialsNotices from the heads 0 to 11 are good.
  Conditions: none.
-/
import Derived.Test.YtjbkbapndoacpaaNDefs
namespace Go.Proofs.Ytjbkbapndoacpaa
open Go.Sy Go.RowKit

set_option maxRecDepth 1000000

theorem no_0_0 : ([0, 1].all fun n => roundN (0 + n)) = true := by kernel_rfl
theorem no_0_1 : ([2, 3].all fun n => roundN (0 + n)) = true := by kernel_rfl
theorem no_0_2 : ([4, 5].all fun n => roundN (0 + n)) = true := by kernel_rfl
theorem no_0_3 : ([6, 7].all fun n => roundN (0 + n)) = true := by kernel_rfl
theorem no_0_4 : ([8, 9].all fun n => roundN (0 + n)) = true := by kernel_rfl
theorem no_0_5 : ([10, 11].all fun n => roundN (0 + n)) = true := by kernel_rfl
theorem no_0 : ((List.range 12).all fun n => roundN (0 + n)) = true := by
  rw [show List.range 12 = [0, 1] ++ [2, 3] ++ [4, 5] ++ [6, 7] ++ [8, 9] ++ [10, 11] from rfl]
  simp only [List.all_append, no_0_0, no_0_1, no_0_2, no_0_3, no_0_4, no_0_5, Bool.and_true]

end Go.Proofs.Ytjbkbapndoacpaa
