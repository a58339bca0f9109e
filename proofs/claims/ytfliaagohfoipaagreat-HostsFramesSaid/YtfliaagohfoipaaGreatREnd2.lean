/-
  What is proved here: what comes behind the loop of plugboardlaw26.HostsFrames is good.
  Conditions: none.
-/
import Derived.Test.YtfliaagohfoipaaGreatRDefs
namespace Go.Proofs.YtfliaagohfoipaaGreat
open Go.Sy Go.RowKit

set_option maxRecDepth 1000000

theorem REnd_47 : ((List.range 4).all fun k => endR (188 + k)) = true := by kernel_rfl
theorem REnd_48 : ((List.range 4).all fun k => endR (192 + k)) = true := by kernel_rfl
theorem REnd_49 : ((List.range 4).all fun k => endR (196 + k)) = true := by kernel_rfl
theorem REnd_50 : ((List.range 4).all fun k => endR (200 + k)) = true := by kernel_rfl
theorem REnd_51 : ((List.range 4).all fun k => endR (204 + k)) = true := by kernel_rfl
theorem REnd_52 : ((List.range 4).all fun k => endR (208 + k)) = true := by kernel_rfl
theorem REnd_53 : ((List.range 4).all fun k => endR (212 + k)) = true := by kernel_rfl
theorem REnd_54 : ((List.range 4).all fun k => endR (216 + k)) = true := by kernel_rfl
theorem REnd_55 : ((List.range 4).all fun k => endR (220 + k)) = true := by kernel_rfl
theorem REnd_56 : ((List.range 4).all fun k => endR (224 + k)) = true := by kernel_rfl
theorem REnd_57 : ((List.range 4).all fun k => endR (228 + k)) = true := by kernel_rfl
theorem REnd_58 : ((List.range 4).all fun k => endR (232 + k)) = true := by kernel_rfl
theorem REnd_59 : ((List.range 4).all fun k => endR (236 + k)) = true := by kernel_rfl

end Go.Proofs.YtfliaagohfoipaaGreat
