/-
  What is proved here: what comes behind the loop of plugboardlaw26.HostsFrames is good.
  Conditions: none.
-/
import Derived.Test.YtfliaagohfoipaaGreatRDefs
namespace Go.Proofs.YtfliaagohfoipaaGreat
open Go.Sy Go.RowKit

set_option maxRecDepth 1000000

theorem REnd_88 : ((List.range 4).all fun k => endR (352 + k)) = true := by kernel_rfl
theorem REnd_89 : ((List.range 4).all fun k => endR (356 + k)) = true := by kernel_rfl
theorem REnd_90 : ((List.range 4).all fun k => endR (360 + k)) = true := by kernel_rfl
theorem REnd_91 : ((List.range 4).all fun k => endR (364 + k)) = true := by kernel_rfl
theorem REnd_92 : ((List.range 4).all fun k => endR (368 + k)) = true := by kernel_rfl
theorem REnd_93 : ((List.range 4).all fun k => endR (372 + k)) = true := by kernel_rfl
theorem REnd_94 : ((List.range 4).all fun k => endR (376 + k)) = true := by kernel_rfl
theorem REnd_95 : ((List.range 4).all fun k => endR (380 + k)) = true := by kernel_rfl

end Go.Proofs.YtfliaagohfoipaaGreat
