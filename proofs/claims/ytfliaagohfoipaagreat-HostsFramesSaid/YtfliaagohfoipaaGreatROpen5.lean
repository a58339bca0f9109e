/-
  What is proved here: rounds of plugboardlaw26.HostsFrames while the pipe is open are good.
  Conditions: none.
-/
import Derived.Test.YtfliaagohfoipaaGreatRDefs
namespace Go.Proofs.YtfliaagohfoipaaGreat
open Go.Sy Go.RowKit

set_option maxRecDepth 1000000

theorem ROpen_40 : ((List.range 4).all fun k => roundR (2 * (160 + k))) = true := by kernel_rfl
theorem ROpen_41 : ((List.range 4).all fun k => roundR (2 * (164 + k))) = true := by kernel_rfl
theorem ROpen_42 : ((List.range 4).all fun k => roundR (2 * (168 + k))) = true := by kernel_rfl
theorem ROpen_43 : ((List.range 4).all fun k => roundR (2 * (172 + k))) = true := by kernel_rfl
theorem ROpen_44 : ((List.range 4).all fun k => roundR (2 * (176 + k))) = true := by kernel_rfl
theorem ROpen_45 : ((List.range 4).all fun k => roundR (2 * (180 + k))) = true := by kernel_rfl
theorem ROpen_46 : ((List.range 4).all fun k => roundR (2 * (184 + k))) = true := by kernel_rfl
theorem ROpen_47 : ((List.range 4).all fun k => roundR (2 * (188 + k))) = true := by kernel_rfl

end Go.Proofs.YtfliaagohfoipaaGreat
