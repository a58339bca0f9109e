/-
  What is proved here: what comes behind the loop of plugboardlaw26.HostsFrames is good.
  Conditions: none.
-/
import Derived.Test.YtfliaagohfoipaaGreatRDefs
namespace Go.Proofs.YtfliaagohfoipaaGreat
open Go.Sy Go.RowKit

set_option maxRecDepth 1000000

theorem REnd_96 : ((List.range 4).all fun k => endR (384 + k)) = true := by kernel_rfl
theorem REnd_97 : ((List.range 4).all fun k => endR (388 + k)) = true := by kernel_rfl
theorem REnd_98 : ((List.range 4).all fun k => endR (392 + k)) = true := by kernel_rfl
theorem REnd_99 : ((List.range 4).all fun k => endR (396 + k)) = true := by kernel_rfl
theorem REnd_100 : ((List.range 4).all fun k => endR (400 + k)) = true := by kernel_rfl
theorem REnd_101 : ((List.range 4).all fun k => endR (404 + k)) = true := by kernel_rfl
theorem REnd_102 : ((List.range 4).all fun k => endR (408 + k)) = true := by kernel_rfl

end Go.Proofs.YtfliaagohfoipaaGreat
