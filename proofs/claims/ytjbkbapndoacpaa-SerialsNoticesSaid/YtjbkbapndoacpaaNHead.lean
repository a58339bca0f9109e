/-
  What is proved here: plugboardlaw41.SerialsNotices up to its loop, and what comes behind it.
  Conditions: none.
-/
import Derived.Test.YtjbkbapndoacpaaNDefs
namespace Go.Proofs.Ytjbkbapndoacpaa
open Go.Sy Go.RowKit

set_option maxRecDepth 1000000

theorem no_head : headN = true := by kernel_rfl
theorem no_end : endN = true := by kernel_rfl
theorem no_loop : place noPath noCode = .loop noLoop := by kernel_rfl
theorem no_id : cId (place [.r, .r, .r, .r, .r, .r, .l, .r] noCode) = 0 := by kernel_rfl
theorem no_slots : slots Try.f3.ntmps (paV noPa 0 0) = 136 := by kernel_rfl

end Go.Proofs.Ytjbkbapndoacpaa
