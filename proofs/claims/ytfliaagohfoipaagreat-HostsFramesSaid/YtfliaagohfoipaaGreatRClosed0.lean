/-
  What is proved here: rounds of plugboardlaw26.HostsFrames when the pipe is closed are good.
  Conditions: none.
-/
import Derived.Test.YtfliaagohfoipaaGreatRDefs
namespace Go.Proofs.YtfliaagohfoipaaGreat
open Go.Sy Go.RowKit

set_option maxRecDepth 1000000

theorem RClosed_0 : ((List.range 8).all fun k => closedR (0 + k)) = true := by kernel_rfl
theorem RClosed_1 : ((List.range 8).all fun k => closedR (8 + k)) = true := by kernel_rfl
theorem RClosed_2 : ((List.range 8).all fun k => closedR (16 + k)) = true := by kernel_rfl
theorem RClosed_3 : ((List.range 8).all fun k => closedR (24 + k)) = true := by kernel_rfl
theorem RClosed_4 : ((List.range 8).all fun k => closedR (32 + k)) = true := by kernel_rfl
theorem RClosed_5 : ((List.range 8).all fun k => closedR (40 + k)) = true := by kernel_rfl
theorem RClosed_6 : ((List.range 8).all fun k => closedR (48 + k)) = true := by kernel_rfl
theorem RClosed_7 : ((List.range 8).all fun k => closedR (56 + k)) = true := by kernel_rfl
theorem RClosed_8 : ((List.range 8).all fun k => closedR (64 + k)) = true := by kernel_rfl
theorem RClosed_9 : ((List.range 8).all fun k => closedR (72 + k)) = true := by kernel_rfl
theorem RClosed_10 : ((List.range 8).all fun k => closedR (80 + k)) = true := by kernel_rfl

end Go.Proofs.YtfliaagohfoipaaGreat
