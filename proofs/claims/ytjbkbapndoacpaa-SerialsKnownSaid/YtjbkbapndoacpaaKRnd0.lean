/-
  What is proved here: rounds of plugboardlaw41.SerialsKnown are good.
  Conditions: none.
-/
import Derived.Test.YtjbkbapndoacpaaKCalls
namespace Go.Proofs.Ytjbkbapndoacpaa
open Go.Sy Go.RowKit

set_option maxRecDepth 1000000

set_option maxHeartbeats 2000000 in
theorem kn_0 : roundK 0 = true := by kernel_rfl
set_option maxHeartbeats 2000000 in
theorem kn_1 : roundK 1 = true := by kernel_rfl
set_option maxHeartbeats 2000000 in
theorem kn_2 : roundK 2 = true := by kernel_rfl
set_option maxHeartbeats 2000000 in
theorem kn_3 : roundK 3 = true := by kernel_rfl
set_option maxHeartbeats 2000000 in
theorem kn_4 : roundK 4 = true := by kernel_rfl
theorem kn_20 : roundK 20 = true := by kernel_rfl
theorem kn_head : headK = true := by kernel_rfl
theorem kn_end : endK = true := by kernel_rfl
theorem kn_loop : place knPath knCode = .loop knLoop := by kernel_rfl
theorem kn_id : cId (place [.r, .r, .l, .r] knCode) = 0 := by kernel_rfl
theorem kn_slots : slots Try.f4.ntmps (paV [] 0 0) = 112 := by kernel_rfl
theorem kn_pa : Try.f4.params.toList.mapM (paOf Try.prog) = some [] := by kernel_rfl

end Go.Proofs.Ytjbkbapndoacpaa
