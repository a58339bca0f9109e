/-
  What is proved here: calls of SerialsCarry in plugboardlaw41.SerialsKnown, behind the deeds, return true.
  Conditions: none.
-/
import Derived.Test.YtjbkbapndoacpaaKStates
namespace Go.Proofs.Ytjbkbapndoacpaa
open Go.Sy Go.RowKit

set_option maxRecDepth 1000000

set_option maxHeartbeats 2000000 in
theorem KCb_0 : carryB 0 = true := by kernel_rfl
set_option maxHeartbeats 2000000 in
theorem KCb_5 : carryB 5 = true := by kernel_rfl
set_option maxHeartbeats 2000000 in
theorem KCb_10 : carryB 10 = true := by kernel_rfl
set_option maxHeartbeats 2000000 in
theorem KCb_15 : carryB 15 = true := by kernel_rfl

end Go.Proofs.Ytjbkbapndoacpaa
