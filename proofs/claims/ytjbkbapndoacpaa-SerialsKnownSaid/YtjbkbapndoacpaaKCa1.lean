/-
  What is proved here: calls of SerialsCarry in plugboardlaw41.SerialsKnown, up to the end of the deeds.
  Conditions: none.
-/
import Derived.Test.YtjbkbapndoacpaaKStates
namespace Go.Proofs.Ytjbkbapndoacpaa
open Go.Sy Go.RowKit

set_option maxRecDepth 1000000

set_option maxHeartbeats 2000000 in
theorem KCa_1 : carryA 1 = true := by kernel_rfl
set_option maxHeartbeats 2000000 in
theorem KCa_11 : carryA 11 = true := by kernel_rfl

end Go.Proofs.Ytjbkbapndoacpaa
