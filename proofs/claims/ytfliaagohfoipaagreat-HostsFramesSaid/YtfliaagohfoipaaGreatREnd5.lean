/-
  What is proved here: what comes behind the loop of plugboardlaw26.HostsFrames is good.
  Conditions: none.
-/
import Derived.Test.YtfliaagohfoipaaGreatRDefs
namespace Go.Proofs.YtfliaagohfoipaaGreat
open Go.Sy Go.RowKit

set_option maxRecDepth 1000000

theorem REnd_80 : ((List.range 4).all fun k => endR (320 + k)) = true := by kernel_rfl
theorem REnd_81 : ((List.range 4).all fun k => endR (324 + k)) = true := by kernel_rfl
theorem REnd_82 : ((List.range 4).all fun k => endR (328 + k)) = true := by kernel_rfl
theorem REnd_83 : ((List.range 4).all fun k => endR (332 + k)) = true := by kernel_rfl
theorem REnd_84 : ((List.range 4).all fun k => endR (336 + k)) = true := by kernel_rfl
theorem REnd_85 : ((List.range 4).all fun k => endR (340 + k)) = true := by kernel_rfl
theorem REnd_86 : ((List.range 4).all fun k => endR (344 + k)) = true := by kernel_rfl
theorem REnd_87 : ((List.range 4).all fun k => endR (348 + k)) = true := by kernel_rfl

end Go.Proofs.YtfliaagohfoipaaGreat
