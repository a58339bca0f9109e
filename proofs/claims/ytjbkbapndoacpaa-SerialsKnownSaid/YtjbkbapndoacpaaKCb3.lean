/-
  What is proved here: calls of SerialsCarry in plugboardlaw41.SerialsKnown, behind the deeds, return true.
  Conditions: none.
-/
import Derived.Test.YtjbkbapndoacpaaKStates
namespace Go.Proofs.Ytjbkbapndoacpaa
open Go.Sy Go.RowKit

set_option maxRecDepth 1000000

set_option maxHeartbeats 2000000 in
theorem KCb_3 : carryB 3 = true := by kernel_rfl
set_option maxHeartbeats 2000000 in
theorem KCb_8 : carryB 8 = true := by kernel_rfl
set_option maxHeartbeats 2000000 in
theorem KCb_13 : carryB 13 = true := by kernel_rfl
set_option maxHeartbeats 2000000 in
theorem KCb_18 : carryB 18 = true := by kernel_rfl

end Go.Proofs.Ytjbkbapndoacpaa
