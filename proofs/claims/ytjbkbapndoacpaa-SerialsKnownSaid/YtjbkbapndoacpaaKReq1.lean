/-
  What is proved here: calls of SerialsRequests in plugboardlaw41.SerialsKnown return true.
  Conditions: none.
-/
import Derived.Test.YtjbkbapndoacpaaKDefs
namespace Go.Proofs.Ytjbkbapndoacpaa
open Go.Sy Go.RowKit

set_option maxRecDepth 1000000

set_option maxHeartbeats 2000000 in
theorem KReq_1 : asks 1 = true := by kernel_rfl
set_option maxHeartbeats 2000000 in
theorem KReq_6 : asks 6 = true := by kernel_rfl
set_option maxHeartbeats 2000000 in
theorem KReq_11 : asks 11 = true := by kernel_rfl
set_option maxHeartbeats 2000000 in
theorem KReq_16 : asks 16 = true := by kernel_rfl

end Go.Proofs.Ytjbkbapndoacpaa
