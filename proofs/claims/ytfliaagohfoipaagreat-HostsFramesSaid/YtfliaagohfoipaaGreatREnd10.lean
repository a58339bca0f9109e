/-
  What is proved here: what comes behind the loop of plugboardlaw26.HostsFrames is good.
  Conditions: none.
-/
import Derived.Test.YtfliaagohfoipaaGreatRDefs
namespace Go.Proofs.YtfliaagohfoipaaGreat
open Go.Sy Go.RowKit

set_option maxRecDepth 1000000

theorem REnd_116 : ((List.range 4).all fun k => endR (464 + k)) = true := by kernel_rfl
theorem REnd_117 : ((List.range 4).all fun k => endR (468 + k)) = true := by kernel_rfl
theorem REnd_118 : ((List.range 4).all fun k => endR (472 + k)) = true := by kernel_rfl
theorem REnd_119 : ((List.range 4).all fun k => endR (476 + k)) = true := by kernel_rfl
theorem REnd_120 : ((List.range 4).all fun k => endR (480 + k)) = true := by kernel_rfl
theorem REnd_121 : ((List.range 4).all fun k => endR (484 + k)) = true := by kernel_rfl

end Go.Proofs.YtfliaagohfoipaaGreat
