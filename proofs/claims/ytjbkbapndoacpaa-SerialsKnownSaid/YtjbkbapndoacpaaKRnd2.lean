/-
  What is proved here: rounds of plugboardlaw41.SerialsKnown are good.
  Conditions: none.
-/
import Derived.Test.YtjbkbapndoacpaaKCalls
namespace Go.Proofs.Ytjbkbapndoacpaa
open Go.Sy Go.RowKit

set_option maxRecDepth 1000000

set_option maxHeartbeats 2000000 in
theorem kn_10 : roundK 10 = true := by kernel_rfl
set_option maxHeartbeats 2000000 in
theorem kn_11 : roundK 11 = true := by kernel_rfl
set_option maxHeartbeats 2000000 in
theorem kn_12 : roundK 12 = true := by kernel_rfl
set_option maxHeartbeats 2000000 in
theorem kn_13 : roundK 13 = true := by kernel_rfl
set_option maxHeartbeats 2000000 in
theorem kn_14 : roundK 14 = true := by kernel_rfl

end Go.Proofs.Ytjbkbapndoacpaa
