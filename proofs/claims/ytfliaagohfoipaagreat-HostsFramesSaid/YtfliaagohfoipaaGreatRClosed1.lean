/-
  What is proved here: rounds of plugboardlaw26.HostsFrames when the pipe is closed are good.
  Conditions: none.
-/
import Derived.Test.YtfliaagohfoipaaGreatRDefs
namespace Go.Proofs.YtfliaagohfoipaaGreat
open Go.Sy Go.RowKit

set_option maxRecDepth 1000000

theorem RClosed_11 : ((List.range 8).all fun k => closedR (88 + k)) = true := by kernel_rfl
theorem RClosed_12 : ((List.range 8).all fun k => closedR (96 + k)) = true := by kernel_rfl
theorem RClosed_13 : ((List.range 8).all fun k => closedR (104 + k)) = true := by kernel_rfl
theorem RClosed_14 : ((List.range 8).all fun k => closedR (112 + k)) = true := by kernel_rfl
theorem RClosed_15 : ((List.range 8).all fun k => closedR (120 + k)) = true := by kernel_rfl
theorem RClosed_16 : ((List.range 8).all fun k => closedR (128 + k)) = true := by kernel_rfl
theorem RClosed_17 : ((List.range 8).all fun k => closedR (136 + k)) = true := by kernel_rfl
theorem RClosed_18 : ((List.range 8).all fun k => closedR (144 + k)) = true := by kernel_rfl
theorem RClosed_19 : ((List.range 8).all fun k => closedR (152 + k)) = true := by kernel_rfl
theorem RClosed_20 : ((List.range 8).all fun k => closedR (160 + k)) = true := by kernel_rfl

end Go.Proofs.YtfliaagohfoipaaGreat
