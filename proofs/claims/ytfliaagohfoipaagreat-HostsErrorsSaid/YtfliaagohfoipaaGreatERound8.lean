/-
  What is proved here: rounds of plugboardlaw26.HostsErrors are good.
  Conditions: none.
-/
import Derived.Test.YtfliaagohfoipaaGreatEDefs
namespace Go.Proofs.YtfliaagohfoipaaGreat
open Go.Sy Go.RowKit

set_option maxRecDepth 1000000

theorem ERound_104 : ((List.range 4).all fun k => roundE (416 + k)) = true := by kernel_rfl
theorem ERound_105 : ((List.range 4).all fun k => roundE (420 + k)) = true := by kernel_rfl
theorem ERound_106 : ((List.range 4).all fun k => roundE (424 + k)) = true := by kernel_rfl
theorem ERound_107 : ((List.range 4).all fun k => roundE (428 + k)) = true := by kernel_rfl
theorem ERound_108 : ((List.range 4).all fun k => roundE (432 + k)) = true := by kernel_rfl
theorem ERound_109 : ((List.range 4).all fun k => roundE (436 + k)) = true := by kernel_rfl
theorem ERound_110 : ((List.range 4).all fun k => roundE (440 + k)) = true := by kernel_rfl

end Go.Proofs.YtfliaagohfoipaaGreat
