/-
  What is proved here: calls of SerialsRequests in plugboardlaw41.SerialsKnown return true.
  Conditions: none.
-/
import Derived.Test.YtjbkbapndoacpaaKDefs
namespace Go.Proofs.Ytjbkbapndoacpaa
open Go.Sy Go.RowKit

set_option maxRecDepth 1000000

set_option maxHeartbeats 2000000 in
theorem KReq_4 : asks 4 = true := by kernel_rfl
set_option maxHeartbeats 2000000 in
theorem KReq_9 : asks 9 = true := by kernel_rfl
set_option maxHeartbeats 2000000 in
theorem KReq_14 : asks 14 = true := by kernel_rfl
set_option maxHeartbeats 2000000 in
theorem KReq_19 : asks 19 = true := by kernel_rfl

end Go.Proofs.Ytjbkbapndoacpaa
