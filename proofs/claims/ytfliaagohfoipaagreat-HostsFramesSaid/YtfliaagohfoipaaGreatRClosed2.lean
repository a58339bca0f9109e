/-
  What is proved here: rounds of plugboardlaw26.HostsFrames when the pipe is closed are good.
  Conditions: none.
-/
import Derived.Test.YtfliaagohfoipaaGreatRDefs
namespace Go.Proofs.YtfliaagohfoipaaGreat
open Go.Sy Go.RowKit

set_option maxRecDepth 1000000

theorem RClosed_21 : ((List.range 8).all fun k => closedR (168 + k)) = true := by kernel_rfl
theorem RClosed_22 : ((List.range 8).all fun k => closedR (176 + k)) = true := by kernel_rfl
theorem RClosed_23 : ((List.range 8).all fun k => closedR (184 + k)) = true := by kernel_rfl
theorem RClosed_24 : ((List.range 8).all fun k => closedR (192 + k)) = true := by kernel_rfl
theorem RClosed_25 : ((List.range 8).all fun k => closedR (200 + k)) = true := by kernel_rfl
theorem RClosed_26 : ((List.range 8).all fun k => closedR (208 + k)) = true := by kernel_rfl
theorem RClosed_27 : ((List.range 8).all fun k => closedR (216 + k)) = true := by kernel_rfl
theorem RClosed_28 : ((List.range 8).all fun k => closedR (224 + k)) = true := by kernel_rfl
theorem RClosed_29 : ((List.range 8).all fun k => closedR (232 + k)) = true := by kernel_rfl
theorem RClosed_30 : ((List.range 8).all fun k => closedR (240 + k)) = true := by kernel_rfl
theorem RClosed_31 : ((List.range 8).all fun k => closedR (248 + k)) = true := by kernel_rfl

end Go.Proofs.YtfliaagohfoipaaGreat
