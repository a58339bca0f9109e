/-
  What is proved here: plugboardlaw26.HostsErrors up to its loop, for isochronous pipes, by their periods.
  Conditions: none.
-/
import Derived.Test.YtfliaagohfoipaaGreatEDefs
namespace Go.Proofs.YtfliaagohfoipaaGreat
open Go.Sy Go.RowKit

set_option maxRecDepth 1000000

theorem EOne_12 : ((List.range 8).all fun k => headV 1 (96 + k)) = true := by kernel_rfl
theorem EOne_13 : ((List.range 8).all fun k => headV 1 (104 + k)) = true := by kernel_rfl
theorem EOne_14 : ((List.range 8).all fun k => headV 1 (112 + k)) = true := by kernel_rfl
theorem EOne_15 : ((List.range 8).all fun k => headV 1 (120 + k)) = true := by kernel_rfl
theorem EOne_16 : ((List.range 8).all fun k => headV 1 (128 + k)) = true := by kernel_rfl

end Go.Proofs.YtfliaagohfoipaaGreat
