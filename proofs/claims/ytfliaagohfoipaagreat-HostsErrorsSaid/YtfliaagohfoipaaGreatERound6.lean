/-
  What is proved here: rounds of plugboardlaw26.HostsErrors are good.
  Conditions: none.
-/
import Derived.Test.YtfliaagohfoipaaGreatEDefs
namespace Go.Proofs.YtfliaagohfoipaaGreat
open Go.Sy Go.RowKit

set_option maxRecDepth 1000000

theorem ERound_89 : ((List.range 4).all fun k => roundE (356 + k)) = true := by kernel_rfl
theorem ERound_90 : ((List.range 4).all fun k => roundE (360 + k)) = true := by kernel_rfl
theorem ERound_91 : ((List.range 4).all fun k => roundE (364 + k)) = true := by kernel_rfl
theorem ERound_92 : ((List.range 4).all fun k => roundE (368 + k)) = true := by kernel_rfl
theorem ERound_93 : ((List.range 4).all fun k => roundE (372 + k)) = true := by kernel_rfl
theorem ERound_94 : ((List.range 4).all fun k => roundE (376 + k)) = true := by kernel_rfl
theorem ERound_95 : ((List.range 4).all fun k => roundE (380 + k)) = true := by kernel_rfl
theorem ERound_96 : ((List.range 4).all fun k => roundE (384 + k)) = true := by kernel_rfl

end Go.Proofs.YtfliaagohfoipaaGreat
