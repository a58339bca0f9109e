/-
  What is proved here: calls of SerialsCarry in plugboardlaw41.SerialsKnown, behind the deeds, return true.
  Conditions: none.
-/
import Derived.Test.YtjbkbapndoacpaaKStates
namespace Go.Proofs.Ytjbkbapndoacpaa
open Go.Sy Go.RowKit

set_option maxRecDepth 1000000

set_option maxHeartbeats 2000000 in
theorem KCb_4 : carryB 4 = true := by kernel_rfl
set_option maxHeartbeats 2000000 in
theorem KCb_9 : carryB 9 = true := by kernel_rfl
set_option maxHeartbeats 2000000 in
theorem KCb_14 : carryB 14 = true := by kernel_rfl
set_option maxHeartbeats 2000000 in
theorem KCb_19 : carryB 19 = true := by kernel_rfl

end Go.Proofs.Ytjbkbapndoacpaa
