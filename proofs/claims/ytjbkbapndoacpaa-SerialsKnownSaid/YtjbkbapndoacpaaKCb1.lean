/-
  What is proved here: calls of SerialsCarry in plugboardlaw41.SerialsKnown, behind the deeds, return true.
  Conditions: none.
-/
import Derived.Test.YtjbkbapndoacpaaKStates
namespace Go.Proofs.Ytjbkbapndoacpaa
open Go.Sy Go.RowKit

set_option maxRecDepth 1000000

set_option maxHeartbeats 2000000 in
theorem KCb_1 : carryB 1 = true := by kernel_rfl
set_option maxHeartbeats 2000000 in
theorem KCb_6 : carryB 6 = true := by kernel_rfl
set_option maxHeartbeats 2000000 in
theorem KCb_11 : carryB 11 = true := by kernel_rfl
set_option maxHeartbeats 2000000 in
theorem KCb_16 : carryB 16 = true := by kernel_rfl

end Go.Proofs.Ytjbkbapndoacpaa
