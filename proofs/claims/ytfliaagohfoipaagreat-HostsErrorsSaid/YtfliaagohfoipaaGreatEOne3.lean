/-
  What is proved here: plugboardlaw26.HostsErrors up to its loop, for isochronous pipes, by their periods.
  Conditions: none.
-/
import Derived.Test.YtfliaagohfoipaaGreatEDefs
namespace Go.Proofs.YtfliaagohfoipaaGreat
open Go.Sy Go.RowKit

set_option maxRecDepth 1000000

theorem EOne_22 : ((List.range 8).all fun k => headV 1 (176 + k)) = true := by kernel_rfl
theorem EOne_23 : ((List.range 8).all fun k => headV 1 (184 + k)) = true := by kernel_rfl
theorem EOne_24 : ((List.range 8).all fun k => headV 1 (192 + k)) = true := by kernel_rfl
theorem EOne_25 : ((List.range 8).all fun k => headV 1 (200 + k)) = true := by kernel_rfl
theorem EOne_26 : ((List.range 8).all fun k => headV 1 (208 + k)) = true := by kernel_rfl

end Go.Proofs.YtfliaagohfoipaaGreat
