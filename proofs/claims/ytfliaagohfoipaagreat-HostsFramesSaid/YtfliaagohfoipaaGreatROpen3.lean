/-
  What is proved here: rounds of plugboardlaw26.HostsFrames while the pipe is open are good.
  Conditions: none.
-/
import Derived.Test.YtfliaagohfoipaaGreatRDefs
namespace Go.Proofs.YtfliaagohfoipaaGreat
open Go.Sy Go.RowKit

set_option maxRecDepth 1000000

theorem ROpen_24 : ((List.range 4).all fun k => roundR (2 * (96 + k))) = true := by kernel_rfl
theorem ROpen_25 : ((List.range 4).all fun k => roundR (2 * (100 + k))) = true := by kernel_rfl
theorem ROpen_26 : ((List.range 4).all fun k => roundR (2 * (104 + k))) = true := by kernel_rfl
theorem ROpen_27 : ((List.range 4).all fun k => roundR (2 * (108 + k))) = true := by kernel_rfl
theorem ROpen_28 : ((List.range 4).all fun k => roundR (2 * (112 + k))) = true := by kernel_rfl
theorem ROpen_29 : ((List.range 4).all fun k => roundR (2 * (116 + k))) = true := by kernel_rfl
theorem ROpen_30 : ((List.range 4).all fun k => roundR (2 * (120 + k))) = true := by kernel_rfl
theorem ROpen_31 : ((List.range 4).all fun k => roundR (2 * (124 + k))) = true := by kernel_rfl

end Go.Proofs.YtfliaagohfoipaaGreat
