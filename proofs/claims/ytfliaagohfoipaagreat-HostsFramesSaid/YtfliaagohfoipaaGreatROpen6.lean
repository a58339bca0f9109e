/-
  What is proved here: rounds of plugboardlaw26.HostsFrames while the pipe is open are good.
  Conditions: none.
-/
import Derived.Test.YtfliaagohfoipaaGreatRDefs
namespace Go.Proofs.YtfliaagohfoipaaGreat
open Go.Sy Go.RowKit

set_option maxRecDepth 1000000

theorem ROpen_48 : ((List.range 4).all fun k => roundR (2 * (192 + k))) = true := by kernel_rfl
theorem ROpen_49 : ((List.range 4).all fun k => roundR (2 * (196 + k))) = true := by kernel_rfl
theorem ROpen_50 : ((List.range 4).all fun k => roundR (2 * (200 + k))) = true := by kernel_rfl
theorem ROpen_51 : ((List.range 4).all fun k => roundR (2 * (204 + k))) = true := by kernel_rfl
theorem ROpen_52 : ((List.range 4).all fun k => roundR (2 * (208 + k))) = true := by kernel_rfl
theorem ROpen_53 : ((List.range 4).all fun k => roundR (2 * (212 + k))) = true := by kernel_rfl
theorem ROpen_54 : ((List.range 4).all fun k => roundR (2 * (216 + k))) = true := by kernel_rfl
theorem ROpen_55 : ((List.range 4).all fun k => roundR (2 * (220 + k))) = true := by kernel_rfl

end Go.Proofs.YtfliaagohfoipaaGreat
