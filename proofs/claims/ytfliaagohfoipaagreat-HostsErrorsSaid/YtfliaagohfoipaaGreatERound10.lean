/-
  What is proved here: rounds of plugboardlaw26.HostsErrors are good.
  Conditions: none.
-/
import Derived.Test.YtfliaagohfoipaaGreatEDefs
namespace Go.Proofs.YtfliaagohfoipaaGreat
open Go.Sy Go.RowKit

set_option maxRecDepth 1000000

theorem ERound_117 : ((List.range 4).all fun k => roundE (468 + k)) = true := by kernel_rfl
theorem ERound_118 : ((List.range 4).all fun k => roundE (472 + k)) = true := by kernel_rfl
theorem ERound_119 : ((List.range 4).all fun k => roundE (476 + k)) = true := by kernel_rfl
theorem ERound_120 : ((List.range 4).all fun k => roundE (480 + k)) = true := by kernel_rfl
theorem ERound_121 : ((List.range 4).all fun k => roundE (484 + k)) = true := by kernel_rfl
theorem ERound_122 : ((List.range 4).all fun k => roundE (488 + k)) = true := by kernel_rfl

end Go.Proofs.YtfliaagohfoipaaGreat
