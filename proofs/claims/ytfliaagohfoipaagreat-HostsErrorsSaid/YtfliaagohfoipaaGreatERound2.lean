/-
  What is proved here: rounds of plugboardlaw26.HostsErrors are good.
  Conditions: none.
-/
import Derived.Test.YtfliaagohfoipaaGreatEDefs
namespace Go.Proofs.YtfliaagohfoipaaGreat
open Go.Sy Go.RowKit

set_option maxRecDepth 1000000

theorem ERound_49 : ((List.range 4).all fun k => roundE (196 + k)) = true := by kernel_rfl
theorem ERound_50 : ((List.range 4).all fun k => roundE (200 + k)) = true := by kernel_rfl
theorem ERound_51 : ((List.range 4).all fun k => roundE (204 + k)) = true := by kernel_rfl
theorem ERound_52 : ((List.range 4).all fun k => roundE (208 + k)) = true := by kernel_rfl
theorem ERound_53 : ((List.range 4).all fun k => roundE (212 + k)) = true := by kernel_rfl
theorem ERound_54 : ((List.range 4).all fun k => roundE (216 + k)) = true := by kernel_rfl
theorem ERound_55 : ((List.range 4).all fun k => roundE (220 + k)) = true := by kernel_rfl
theorem ERound_56 : ((List.range 4).all fun k => roundE (224 + k)) = true := by kernel_rfl
theorem ERound_57 : ((List.range 4).all fun k => roundE (228 + k)) = true := by kernel_rfl
theorem ERound_58 : ((List.range 4).all fun k => roundE (232 + k)) = true := by kernel_rfl
theorem ERound_59 : ((List.range 4).all fun k => roundE (236 + k)) = true := by kernel_rfl
theorem ERound_60 : ((List.range 4).all fun k => roundE (240 + k)) = true := by kernel_rfl

end Go.Proofs.YtfliaagohfoipaaGreat
