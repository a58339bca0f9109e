/-
  What is proved here: what comes behind the loop of plugboardlaw26.HostsFrames is good.
  Conditions: none.
-/
import Derived.Test.YtfliaagohfoipaaGreatRDefs
namespace Go.Proofs.YtfliaagohfoipaaGreat
open Go.Sy Go.RowKit

set_option maxRecDepth 1000000

theorem REnd_60 : ((List.range 4).all fun k => endR (240 + k)) = true := by kernel_rfl
theorem REnd_61 : ((List.range 4).all fun k => endR (244 + k)) = true := by kernel_rfl
theorem REnd_62 : ((List.range 4).all fun k => endR (248 + k)) = true := by kernel_rfl
theorem REnd_63 : ((List.range 4).all fun k => endR (252 + k)) = true := by kernel_rfl
theorem REnd_64 : ((List.range 4).all fun k => endR (256 + k)) = true := by kernel_rfl
theorem REnd_65 : ((List.range 4).all fun k => endR (260 + k)) = true := by kernel_rfl
theorem REnd_66 : ((List.range 4).all fun k => endR (264 + k)) = true := by kernel_rfl
theorem REnd_67 : ((List.range 4).all fun k => endR (268 + k)) = true := by kernel_rfl
theorem REnd_68 : ((List.range 4).all fun k => endR (272 + k)) = true := by kernel_rfl
theorem REnd_69 : ((List.range 4).all fun k => endR (276 + k)) = true := by kernel_rfl

end Go.Proofs.YtfliaagohfoipaaGreat
