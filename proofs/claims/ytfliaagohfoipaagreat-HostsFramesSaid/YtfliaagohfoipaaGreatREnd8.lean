/-
  What is proved here: what comes behind the loop of plugboardlaw26.HostsFrames is good.
  Conditions: none.
-/
import Derived.Test.YtfliaagohfoipaaGreatRDefs
namespace Go.Proofs.YtfliaagohfoipaaGreat
open Go.Sy Go.RowKit

set_option maxRecDepth 1000000

theorem REnd_103 : ((List.range 4).all fun k => endR (412 + k)) = true := by kernel_rfl
theorem REnd_104 : ((List.range 4).all fun k => endR (416 + k)) = true := by kernel_rfl
theorem REnd_105 : ((List.range 4).all fun k => endR (420 + k)) = true := by kernel_rfl
theorem REnd_106 : ((List.range 4).all fun k => endR (424 + k)) = true := by kernel_rfl
theorem REnd_107 : ((List.range 4).all fun k => endR (428 + k)) = true := by kernel_rfl
theorem REnd_108 : ((List.range 4).all fun k => endR (432 + k)) = true := by kernel_rfl
theorem REnd_109 : ((List.range 4).all fun k => endR (436 + k)) = true := by kernel_rfl

end Go.Proofs.YtfliaagohfoipaaGreat
