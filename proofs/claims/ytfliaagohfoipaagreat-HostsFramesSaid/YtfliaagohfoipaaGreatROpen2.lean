/-
  What is proved here: rounds of plugboardlaw26.HostsFrames while the pipe is open are good.
  Conditions: none.
-/
import Derived.Test.YtfliaagohfoipaaGreatRDefs
namespace Go.Proofs.YtfliaagohfoipaaGreat
open Go.Sy Go.RowKit

set_option maxRecDepth 1000000

theorem ROpen_16 : ((List.range 4).all fun k => roundR (2 * (64 + k))) = true := by kernel_rfl
theorem ROpen_17 : ((List.range 4).all fun k => roundR (2 * (68 + k))) = true := by kernel_rfl
theorem ROpen_18 : ((List.range 4).all fun k => roundR (2 * (72 + k))) = true := by kernel_rfl
theorem ROpen_19 : ((List.range 4).all fun k => roundR (2 * (76 + k))) = true := by kernel_rfl
theorem ROpen_20 : ((List.range 4).all fun k => roundR (2 * (80 + k))) = true := by kernel_rfl
theorem ROpen_21 : ((List.range 4).all fun k => roundR (2 * (84 + k))) = true := by kernel_rfl
theorem ROpen_22 : ((List.range 4).all fun k => roundR (2 * (88 + k))) = true := by kernel_rfl
theorem ROpen_23 : ((List.range 4).all fun k => roundR (2 * (92 + k))) = true := by kernel_rfl

end Go.Proofs.YtfliaagohfoipaaGreat
