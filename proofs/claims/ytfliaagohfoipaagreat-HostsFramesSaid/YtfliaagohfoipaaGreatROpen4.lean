/-
  What is proved here: rounds of plugboardlaw26.HostsFrames while the pipe is open are good.
  Conditions: none.
-/
import Derived.Test.YtfliaagohfoipaaGreatRDefs
namespace Go.Proofs.YtfliaagohfoipaaGreat
open Go.Sy Go.RowKit

set_option maxRecDepth 1000000

theorem ROpen_32 : ((List.range 4).all fun k => roundR (2 * (128 + k))) = true := by kernel_rfl
theorem ROpen_33 : ((List.range 4).all fun k => roundR (2 * (132 + k))) = true := by kernel_rfl
theorem ROpen_34 : ((List.range 4).all fun k => roundR (2 * (136 + k))) = true := by kernel_rfl
theorem ROpen_35 : ((List.range 4).all fun k => roundR (2 * (140 + k))) = true := by kernel_rfl
theorem ROpen_36 : ((List.range 4).all fun k => roundR (2 * (144 + k))) = true := by kernel_rfl
theorem ROpen_37 : ((List.range 4).all fun k => roundR (2 * (148 + k))) = true := by kernel_rfl
theorem ROpen_38 : ((List.range 4).all fun k => roundR (2 * (152 + k))) = true := by kernel_rfl
theorem ROpen_39 : ((List.range 4).all fun k => roundR (2 * (156 + k))) = true := by kernel_rfl

end Go.Proofs.YtfliaagohfoipaaGreat
