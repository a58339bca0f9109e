/-
  What is proved here: plugboardlaw26.HostsErrors up to its loop, for isochronous pipes, by their periods.
  Conditions: none.
-/
import Derived.Test.YtfliaagohfoipaaGreatEDefs
namespace Go.Proofs.YtfliaagohfoipaaGreat
open Go.Sy Go.RowKit

set_option maxRecDepth 1000000

theorem EOne_17 : ((List.range 8).all fun k => headV 1 (136 + k)) = true := by kernel_rfl
theorem EOne_18 : ((List.range 8).all fun k => headV 1 (144 + k)) = true := by kernel_rfl
theorem EOne_19 : ((List.range 8).all fun k => headV 1 (152 + k)) = true := by kernel_rfl
theorem EOne_20 : ((List.range 8).all fun k => headV 1 (160 + k)) = true := by kernel_rfl
theorem EOne_21 : ((List.range 8).all fun k => headV 1 (168 + k)) = true := by kernel_rfl

end Go.Proofs.YtfliaagohfoipaaGreat
