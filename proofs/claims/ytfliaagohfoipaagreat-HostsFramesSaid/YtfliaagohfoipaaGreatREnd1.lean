/-
  What is proved here: what comes behind the loop of plugboardlaw26.HostsFrames is good.
  Conditions: none.
-/
import Derived.Test.YtfliaagohfoipaaGreatRDefs
namespace Go.Proofs.YtfliaagohfoipaaGreat
open Go.Sy Go.RowKit

set_option maxRecDepth 1000000

theorem REnd_31 : ((List.range 4).all fun k => endR (124 + k)) = true := by kernel_rfl
theorem REnd_32 : ((List.range 4).all fun k => endR (128 + k)) = true := by kernel_rfl
theorem REnd_33 : ((List.range 4).all fun k => endR (132 + k)) = true := by kernel_rfl
theorem REnd_34 : ((List.range 4).all fun k => endR (136 + k)) = true := by kernel_rfl
theorem REnd_35 : ((List.range 4).all fun k => endR (140 + k)) = true := by kernel_rfl
theorem REnd_36 : ((List.range 4).all fun k => endR (144 + k)) = true := by kernel_rfl
theorem REnd_37 : ((List.range 4).all fun k => endR (148 + k)) = true := by kernel_rfl
theorem REnd_38 : ((List.range 4).all fun k => endR (152 + k)) = true := by kernel_rfl
theorem REnd_39 : ((List.range 4).all fun k => endR (156 + k)) = true := by kernel_rfl
theorem REnd_40 : ((List.range 4).all fun k => endR (160 + k)) = true := by kernel_rfl
theorem REnd_41 : ((List.range 4).all fun k => endR (164 + k)) = true := by kernel_rfl
theorem REnd_42 : ((List.range 4).all fun k => endR (168 + k)) = true := by kernel_rfl
theorem REnd_43 : ((List.range 4).all fun k => endR (172 + k)) = true := by kernel_rfl
theorem REnd_44 : ((List.range 4).all fun k => endR (176 + k)) = true := by kernel_rfl
theorem REnd_45 : ((List.range 4).all fun k => endR (180 + k)) = true := by kernel_rfl
theorem REnd_46 : ((List.range 4).all fun k => endR (184 + k)) = true := by kernel_rfl

end Go.Proofs.YtfliaagohfoipaaGreat
