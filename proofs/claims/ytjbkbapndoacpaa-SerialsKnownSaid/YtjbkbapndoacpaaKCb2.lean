/-
  What is proved here: calls of SerialsCarry in plugboardlaw41.SerialsKnown, behind the deeds, return true.
  Conditions: none.
-/
import Derived.Test.YtjbkbapndoacpaaKStates
namespace Go.Proofs.Ytjbkbapndoacpaa
open Go.Sy Go.RowKit

set_option maxRecDepth 1000000

set_option maxHeartbeats 2000000 in
theorem KCb_2 : carryB 2 = true := by kernel_rfl
set_option maxHeartbeats 2000000 in
theorem KCb_7 : carryB 7 = true := by kernel_rfl
set_option maxHeartbeats 2000000 in
theorem KCb_12 : carryB 12 = true := by kernel_rfl
set_option maxHeartbeats 2000000 in
theorem KCb_17 : carryB 17 = true := by kernel_rfl

end Go.Proofs.Ytjbkbapndoacpaa
