/-
  What is proved here: rounds of plugboardlaw26.HostsFrames while the pipe is open are good.
  Conditions: none.
-/
import Derived.Test.YtfliaagohfoipaaGreatRDefs
namespace Go.Proofs.YtfliaagohfoipaaGreat
open Go.Sy Go.RowKit

set_option maxRecDepth 1000000

theorem ROpen_56 : ((List.range 4).all fun k => roundR (2 * (224 + k))) = true := by kernel_rfl
theorem ROpen_57 : ((List.range 4).all fun k => roundR (2 * (228 + k))) = true := by kernel_rfl
theorem ROpen_58 : ((List.range 4).all fun k => roundR (2 * (232 + k))) = true := by kernel_rfl
theorem ROpen_59 : ((List.range 4).all fun k => roundR (2 * (236 + k))) = true := by kernel_rfl
theorem ROpen_60 : ((List.range 4).all fun k => roundR (2 * (240 + k))) = true := by kernel_rfl
theorem ROpen_61 : ((List.range 4).all fun k => roundR (2 * (244 + k))) = true := by kernel_rfl
theorem ROpen_62 : ((List.range 4).all fun k => roundR (2 * (248 + k))) = true := by kernel_rfl
theorem ROpen_63 : ((List.range 4).all fun k => roundR (2 * (252 + k))) = true := by kernel_rfl

end Go.Proofs.YtfliaagohfoipaaGreat
