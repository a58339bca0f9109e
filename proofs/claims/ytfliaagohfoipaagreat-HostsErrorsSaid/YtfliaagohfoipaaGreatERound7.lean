/-
  What is proved here: rounds of plugboardlaw26.HostsErrors are good.
  Conditions: none.
-/
import Derived.Test.YtfliaagohfoipaaGreatEDefs
namespace Go.Proofs.YtfliaagohfoipaaGreat
open Go.Sy Go.RowKit

set_option maxRecDepth 1000000

theorem ERound_97 : ((List.range 4).all fun k => roundE (388 + k)) = true := by kernel_rfl
theorem ERound_98 : ((List.range 4).all fun k => roundE (392 + k)) = true := by kernel_rfl
theorem ERound_99 : ((List.range 4).all fun k => roundE (396 + k)) = true := by kernel_rfl
theorem ERound_100 : ((List.range 4).all fun k => roundE (400 + k)) = true := by kernel_rfl
theorem ERound_101 : ((List.range 4).all fun k => roundE (404 + k)) = true := by kernel_rfl
theorem ERound_102 : ((List.range 4).all fun k => roundE (408 + k)) = true := by kernel_rfl
theorem ERound_103 : ((List.range 4).all fun k => roundE (412 + k)) = true := by kernel_rfl

end Go.Proofs.YtfliaagohfoipaaGreat
