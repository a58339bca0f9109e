/-
  What is proved here: plugboardlaw26.HostsErrors up to its loop, for isochronous pipes of the period 256.
  Conditions: none.
-/
import Derived.Test.YtfliaagohfoipaaGreatEDefs
namespace Go.Proofs.YtfliaagohfoipaaGreat
open Go.Sy Go.RowKit

set_option maxRecDepth 1000000

theorem er_m0 : headM [(3, 1, 1), (5, 256, 256), (6, 0, 0)] = true := by kernel_rfl
theorem er_m1 : headM [(3, 1, 1), (5, 256, 256), (6, 2, 255)] = true := by kernel_rfl
theorem er_m2 : headM [(3, 1, 1), (5, 256, 256), (6, 1, 1), (4, -9223372036854775808, 500)] = true := by kernel_rfl
theorem er_m3 : headM [(3, 1, 1), (5, 256, 256), (6, 1, 1), (4, 501, 700)] = true := by kernel_rfl
theorem er_m4 : headM [(3, 1, 1), (5, 256, 256), (6, 1, 1), (4, 701, 900)] = true := by kernel_rfl
theorem er_m5 : headM [(3, 1, 1), (5, 256, 256), (6, 1, 1), (4, 901, 9223372036854775807)] = true := by kernel_rfl

end Go.Proofs.YtfliaagohfoipaaGreat
