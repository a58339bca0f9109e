/-
  What is proved here: rounds of plugboardlaw26.HostsErrors are good.
  Conditions: none.
-/
import Derived.Test.YtfliaagohfoipaaGreatEDefs
namespace Go.Proofs.YtfliaagohfoipaaGreat
open Go.Sy Go.RowKit

set_option maxRecDepth 1000000

theorem ERound_81 : ((List.range 4).all fun k => roundE (324 + k)) = true := by kernel_rfl
theorem ERound_82 : ((List.range 4).all fun k => roundE (328 + k)) = true := by kernel_rfl
theorem ERound_83 : ((List.range 4).all fun k => roundE (332 + k)) = true := by kernel_rfl
theorem ERound_84 : ((List.range 4).all fun k => roundE (336 + k)) = true := by kernel_rfl
theorem ERound_85 : ((List.range 4).all fun k => roundE (340 + k)) = true := by kernel_rfl
theorem ERound_86 : ((List.range 4).all fun k => roundE (344 + k)) = true := by kernel_rfl
theorem ERound_87 : ((List.range 4).all fun k => roundE (348 + k)) = true := by kernel_rfl
theorem ERound_88 : ((List.range 4).all fun k => roundE (352 + k)) = true := by kernel_rfl

end Go.Proofs.YtfliaagohfoipaaGreat
