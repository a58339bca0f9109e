/-
  What is proved here: rounds of plugboardlaw26.HostsFrames when the pipe is closed are good.
  Conditions: none.
-/
import Derived.Test.YtfliaagohfoipaaGreatRDefs
namespace Go.Proofs.YtfliaagohfoipaaGreat
open Go.Sy Go.RowKit

set_option maxRecDepth 1000000

theorem RClosed_53 : ((List.range 8).all fun k => closedR (424 + k)) = true := by kernel_rfl
theorem RClosed_54 : ((List.range 8).all fun k => closedR (432 + k)) = true := by kernel_rfl
theorem RClosed_55 : ((List.range 8).all fun k => closedR (440 + k)) = true := by kernel_rfl
theorem RClosed_56 : ((List.range 8).all fun k => closedR (448 + k)) = true := by kernel_rfl
theorem RClosed_57 : ((List.range 8).all fun k => closedR (456 + k)) = true := by kernel_rfl
theorem RClosed_58 : ((List.range 8).all fun k => closedR (464 + k)) = true := by kernel_rfl
theorem RClosed_59 : ((List.range 8).all fun k => closedR (472 + k)) = true := by kernel_rfl
theorem RClosed_60 : ((List.range 8).all fun k => closedR (480 + k)) = true := by kernel_rfl
theorem RClosed_61 : ((List.range 8).all fun k => closedR (488 + k)) = true := by kernel_rfl
theorem RClosed_62 : ((List.range 8).all fun k => closedR (496 + k)) = true := by kernel_rfl
theorem RClosed_63 : ((List.range 8).all fun k => closedR (504 + k)) = true := by kernel_rfl

end Go.Proofs.YtfliaagohfoipaaGreat
