/-
  What is proved here: plugboardlaw22.SplitsHost up to its loop, and what comes behind it.
  Conditions: none.
-/
import Derived.Test.YtafkokkcnnfnlaaGreatHostDefs
namespace Go.Proofs.YtafkokkcnnfnlaaGreat
open Go.Sy Go.RowKit

set_option maxRecDepth 1000000

theorem host_heads : (hostQs.all headS) = true := by kernel_rfl
theorem host_end : endS = true := by kernel_rfl
theorem host_loop : place hostPath hostCode = .loop hostLoop := by kernel_rfl

end Go.Proofs.YtafkokkcnnfnlaaGreat
