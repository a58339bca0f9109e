/-
  What is proved here: rounds of plugboardlaw26.HostsFrames when the pipe is closed are good.
  Conditions: none.
-/
import Derived.Test.YtfliaagohfoipaaGreatRDefs
namespace Go.Proofs.YtfliaagohfoipaaGreat
open Go.Sy Go.RowKit

set_option maxRecDepth 1000000

theorem RClosed_43 : ((List.range 8).all fun k => closedR (344 + k)) = true := by kernel_rfl
theorem RClosed_44 : ((List.range 8).all fun k => closedR (352 + k)) = true := by kernel_rfl
theorem RClosed_45 : ((List.range 8).all fun k => closedR (360 + k)) = true := by kernel_rfl
theorem RClosed_46 : ((List.range 8).all fun k => closedR (368 + k)) = true := by kernel_rfl
theorem RClosed_47 : ((List.range 8).all fun k => closedR (376 + k)) = true := by kernel_rfl
theorem RClosed_48 : ((List.range 8).all fun k => closedR (384 + k)) = true := by kernel_rfl
theorem RClosed_49 : ((List.range 8).all fun k => closedR (392 + k)) = true := by kernel_rfl
theorem RClosed_50 : ((List.range 8).all fun k => closedR (400 + k)) = true := by kernel_rfl
theorem RClosed_51 : ((List.range 8).all fun k => closedR (408 + k)) = true := by kernel_rfl
theorem RClosed_52 : ((List.range 8).all fun k => closedR (416 + k)) = true := by kernel_rfl

end Go.Proofs.YtfliaagohfoipaaGreat
