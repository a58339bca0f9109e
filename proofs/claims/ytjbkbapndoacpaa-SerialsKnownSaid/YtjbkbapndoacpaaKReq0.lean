/-
  What is proved here: calls of SerialsRequests in plugboardlaw41.SerialsKnown return true.
  Conditions: none.
-/
import Derived.Test.YtjbkbapndoacpaaKDefs
namespace Go.Proofs.Ytjbkbapndoacpaa
open Go.Sy Go.RowKit

set_option maxRecDepth 1000000

set_option maxHeartbeats 2000000 in
theorem KReq_0 : asks 0 = true := by kernel_rfl
set_option maxHeartbeats 2000000 in
theorem KReq_5 : asks 5 = true := by kernel_rfl
set_option maxHeartbeats 2000000 in
theorem KReq_10 : asks 10 = true := by kernel_rfl
set_option maxHeartbeats 2000000 in
theorem KReq_15 : asks 15 = true := by kernel_rfl

end Go.Proofs.Ytjbkbapndoacpaa
