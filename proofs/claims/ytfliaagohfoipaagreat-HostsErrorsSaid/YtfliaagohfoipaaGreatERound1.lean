/-
  What is proved here: rounds of plugboardlaw26.HostsErrors are good.
  Conditions: none.
-/
import Derived.Test.YtfliaagohfoipaaGreatEDefs
namespace Go.Proofs.YtfliaagohfoipaaGreat
open Go.Sy Go.RowKit

set_option maxRecDepth 1000000

theorem ERound_33 : ((List.range 4).all fun k => roundE (132 + k)) = true := by kernel_rfl
theorem ERound_34 : ((List.range 4).all fun k => roundE (136 + k)) = true := by kernel_rfl
theorem ERound_35 : ((List.range 4).all fun k => roundE (140 + k)) = true := by kernel_rfl
theorem ERound_36 : ((List.range 4).all fun k => roundE (144 + k)) = true := by kernel_rfl
theorem ERound_37 : ((List.range 4).all fun k => roundE (148 + k)) = true := by kernel_rfl
theorem ERound_38 : ((List.range 4).all fun k => roundE (152 + k)) = true := by kernel_rfl
theorem ERound_39 : ((List.range 4).all fun k => roundE (156 + k)) = true := by kernel_rfl
theorem ERound_40 : ((List.range 4).all fun k => roundE (160 + k)) = true := by kernel_rfl
theorem ERound_41 : ((List.range 4).all fun k => roundE (164 + k)) = true := by kernel_rfl
theorem ERound_42 : ((List.range 4).all fun k => roundE (168 + k)) = true := by kernel_rfl
theorem ERound_43 : ((List.range 4).all fun k => roundE (172 + k)) = true := by kernel_rfl
theorem ERound_44 : ((List.range 4).all fun k => roundE (176 + k)) = true := by kernel_rfl
theorem ERound_45 : ((List.range 4).all fun k => roundE (180 + k)) = true := by kernel_rfl
theorem ERound_46 : ((List.range 4).all fun k => roundE (184 + k)) = true := by kernel_rfl
theorem ERound_47 : ((List.range 4).all fun k => roundE (188 + k)) = true := by kernel_rfl
theorem ERound_48 : ((List.range 4).all fun k => roundE (192 + k)) = true := by kernel_rfl

end Go.Proofs.YtfliaagohfoipaaGreat
