/-
  What is proved here: rounds of plugboardlaw41.SerialsKnown are good.
  Conditions: none.
-/
import Derived.Test.YtjbkbapndoacpaaKCalls
namespace Go.Proofs.Ytjbkbapndoacpaa
open Go.Sy Go.RowKit

set_option maxRecDepth 1000000

set_option maxHeartbeats 2000000 in
theorem kn_15 : roundK 15 = true := by kernel_rfl
set_option maxHeartbeats 2000000 in
theorem kn_16 : roundK 16 = true := by kernel_rfl
set_option maxHeartbeats 2000000 in
theorem kn_17 : roundK 17 = true := by kernel_rfl
set_option maxHeartbeats 2000000 in
theorem kn_18 : roundK 18 = true := by kernel_rfl
set_option maxHeartbeats 2000000 in
theorem kn_19 : roundK 19 = true := by kernel_rfl

end Go.Proofs.Ytjbkbapndoacpaa
