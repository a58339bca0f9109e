/-
  What is proved here: calls of SerialsRequests in plugboardlaw41.SerialsKnown return true.
  Conditions: none.
-/
import Derived.Test.YtjbkbapndoacpaaKDefs
namespace Go.Proofs.Ytjbkbapndoacpaa
open Go.Sy Go.RowKit

set_option maxRecDepth 1000000

set_option maxHeartbeats 2000000 in
theorem KReq_2 : asks 2 = true := by kernel_rfl
set_option maxHeartbeats 2000000 in
theorem KReq_7 : asks 7 = true := by kernel_rfl
set_option maxHeartbeats 2000000 in
theorem KReq_12 : asks 12 = true := by kernel_rfl
set_option maxHeartbeats 2000000 in
theorem KReq_17 : asks 17 = true := by kernel_rfl

end Go.Proofs.Ytjbkbapndoacpaa
