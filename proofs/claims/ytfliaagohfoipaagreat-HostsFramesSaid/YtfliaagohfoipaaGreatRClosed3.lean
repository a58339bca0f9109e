/-
  What is proved here: rounds of plugboardlaw26.HostsFrames when the pipe is closed are good.
  Conditions: none.
-/
import Derived.Test.YtfliaagohfoipaaGreatRDefs
namespace Go.Proofs.YtfliaagohfoipaaGreat
open Go.Sy Go.RowKit

set_option maxRecDepth 1000000

theorem RClosed_32 : ((List.range 8).all fun k => closedR (256 + k)) = true := by kernel_rfl
theorem RClosed_33 : ((List.range 8).all fun k => closedR (264 + k)) = true := by kernel_rfl
theorem RClosed_34 : ((List.range 8).all fun k => closedR (272 + k)) = true := by kernel_rfl
theorem RClosed_35 : ((List.range 8).all fun k => closedR (280 + k)) = true := by kernel_rfl
theorem RClosed_36 : ((List.range 8).all fun k => closedR (288 + k)) = true := by kernel_rfl
theorem RClosed_37 : ((List.range 8).all fun k => closedR (296 + k)) = true := by kernel_rfl
theorem RClosed_38 : ((List.range 8).all fun k => closedR (304 + k)) = true := by kernel_rfl
theorem RClosed_39 : ((List.range 8).all fun k => closedR (312 + k)) = true := by kernel_rfl
theorem RClosed_40 : ((List.range 8).all fun k => closedR (320 + k)) = true := by kernel_rfl
theorem RClosed_41 : ((List.range 8).all fun k => closedR (328 + k)) = true := by kernel_rfl
theorem RClosed_42 : ((List.range 8).all fun k => closedR (336 + k)) = true := by kernel_rfl

end Go.Proofs.YtfliaagohfoipaaGreat
