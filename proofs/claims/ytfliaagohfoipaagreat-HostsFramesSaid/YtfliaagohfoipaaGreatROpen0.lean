/-
  What is proved here: rounds of plugboardlaw26.HostsFrames while the pipe is open are good.
  Conditions: none.
-/
import Derived.Test.YtfliaagohfoipaaGreatRDefs
namespace Go.Proofs.YtfliaagohfoipaaGreat
open Go.Sy Go.RowKit

set_option maxRecDepth 1000000

theorem ROpen_0 : ((List.range 4).all fun k => roundR (2 * (0 + k))) = true := by kernel_rfl
theorem ROpen_1 : ((List.range 4).all fun k => roundR (2 * (4 + k))) = true := by kernel_rfl
theorem ROpen_2 : ((List.range 4).all fun k => roundR (2 * (8 + k))) = true := by kernel_rfl
theorem ROpen_3 : ((List.range 4).all fun k => roundR (2 * (12 + k))) = true := by kernel_rfl
theorem ROpen_4 : ((List.range 4).all fun k => roundR (2 * (16 + k))) = true := by kernel_rfl
theorem ROpen_5 : ((List.range 4).all fun k => roundR (2 * (20 + k))) = true := by kernel_rfl
theorem ROpen_6 : ((List.range 4).all fun k => roundR (2 * (24 + k))) = true := by kernel_rfl
theorem ROpen_7 : ((List.range 4).all fun k => roundR (2 * (28 + k))) = true := by kernel_rfl

end Go.Proofs.YtfliaagohfoipaaGreat
