/-
  What is proved here: rounds of plugboardlaw26.HostsFrames while the pipe is open are good.
  Conditions: none.
-/
import Derived.Test.YtfliaagohfoipaaGreatRDefs
namespace Go.Proofs.YtfliaagohfoipaaGreat
open Go.Sy Go.RowKit

set_option maxRecDepth 1000000

theorem ROpen_8 : ((List.range 4).all fun k => roundR (2 * (32 + k))) = true := by kernel_rfl
theorem ROpen_9 : ((List.range 4).all fun k => roundR (2 * (36 + k))) = true := by kernel_rfl
theorem ROpen_10 : ((List.range 4).all fun k => roundR (2 * (40 + k))) = true := by kernel_rfl
theorem ROpen_11 : ((List.range 4).all fun k => roundR (2 * (44 + k))) = true := by kernel_rfl
theorem ROpen_12 : ((List.range 4).all fun k => roundR (2 * (48 + k))) = true := by kernel_rfl
theorem ROpen_13 : ((List.range 4).all fun k => roundR (2 * (52 + k))) = true := by kernel_rfl
theorem ROpen_14 : ((List.range 4).all fun k => roundR (2 * (56 + k))) = true := by kernel_rfl
theorem ROpen_15 : ((List.range 4).all fun k => roundR (2 * (60 + k))) = true := by kernel_rfl

end Go.Proofs.YtfliaagohfoipaaGreat
