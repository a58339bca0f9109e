/-
  What is proved here: what comes behind the loop of plugboardlaw26.HostsFrames is good.
  Conditions: none.
-/
import Derived.Test.YtfliaagohfoipaaGreatRDefs
namespace Go.Proofs.YtfliaagohfoipaaGreat
open Go.Sy Go.RowKit

set_option maxRecDepth 1000000

theorem REnd_110 : ((List.range 4).all fun k => endR (440 + k)) = true := by kernel_rfl
theorem REnd_111 : ((List.range 4).all fun k => endR (444 + k)) = true := by kernel_rfl
theorem REnd_112 : ((List.range 4).all fun k => endR (448 + k)) = true := by kernel_rfl
theorem REnd_113 : ((List.range 4).all fun k => endR (452 + k)) = true := by kernel_rfl
theorem REnd_114 : ((List.range 4).all fun k => endR (456 + k)) = true := by kernel_rfl
theorem REnd_115 : ((List.range 4).all fun k => endR (460 + k)) = true := by kernel_rfl

end Go.Proofs.YtfliaagohfoipaaGreat
