/-
  What is proved here: rounds of plugboardlaw41.SerialsKnown are good.
  Conditions: none.
-/
import Derived.Test.YtjbkbapndoacpaaKCalls
namespace Go.Proofs.Ytjbkbapndoacpaa
open Go.Sy Go.RowKit

set_option maxRecDepth 1000000

set_option maxHeartbeats 2000000 in
theorem kn_5 : roundK 5 = true := by kernel_rfl
set_option maxHeartbeats 2000000 in
theorem kn_6 : roundK 6 = true := by kernel_rfl
set_option maxHeartbeats 2000000 in
theorem kn_7 : roundK 7 = true := by kernel_rfl
set_option maxHeartbeats 2000000 in
theorem kn_8 : roundK 8 = true := by kernel_rfl
set_option maxHeartbeats 2000000 in
theorem kn_9 : roundK 9 = true := by kernel_rfl

end Go.Proofs.Ytjbkbapndoacpaa
