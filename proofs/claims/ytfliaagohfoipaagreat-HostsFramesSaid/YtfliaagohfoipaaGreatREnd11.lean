/-
  What is proved here: what comes behind the loop of plugboardlaw26.HostsFrames is good.
  Conditions: none.
-/
import Derived.Test.YtfliaagohfoipaaGreatRDefs
namespace Go.Proofs.YtfliaagohfoipaaGreat
open Go.Sy Go.RowKit

set_option maxRecDepth 1000000

theorem REnd_122 : ((List.range 4).all fun k => endR (488 + k)) = true := by kernel_rfl
theorem REnd_123 : ((List.range 4).all fun k => endR (492 + k)) = true := by kernel_rfl
theorem REnd_124 : ((List.range 4).all fun k => endR (496 + k)) = true := by kernel_rfl
theorem REnd_125 : ((List.range 4).all fun k => endR (500 + k)) = true := by kernel_rfl
theorem REnd_126 : ((List.range 4).all fun k => endR (504 + k)) = true := by kernel_rfl
theorem REnd_127 : ((List.range 4).all fun k => endR (508 + k)) = true := by kernel_rfl

end Go.Proofs.YtfliaagohfoipaaGreat
