/-
  What is proved here: calls of SerialsRequests in plugboardlaw41.SerialsKnown return true.
  Conditions: none.
-/
import Derived.Test.YtjbkbapndoacpaaKDefs
namespace Go.Proofs.Ytjbkbapndoacpaa
open Go.Sy Go.RowKit

set_option maxRecDepth 1000000

set_option maxHeartbeats 2000000 in
theorem KReq_3 : asks 3 = true := by kernel_rfl
set_option maxHeartbeats 2000000 in
theorem KReq_8 : asks 8 = true := by kernel_rfl
set_option maxHeartbeats 2000000 in
theorem KReq_13 : asks 13 = true := by kernel_rfl
set_option maxHeartbeats 2000000 in
theorem KReq_18 : asks 18 = true := by kernel_rfl

end Go.Proofs.Ytjbkbapndoacpaa
