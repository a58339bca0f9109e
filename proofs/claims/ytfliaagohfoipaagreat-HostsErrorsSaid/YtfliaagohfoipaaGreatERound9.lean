/-
  What is proved here: rounds of plugboardlaw26.HostsErrors are good.
  Conditions: none.
-/
import Derived.Test.YtfliaagohfoipaaGreatEDefs
namespace Go.Proofs.YtfliaagohfoipaaGreat
open Go.Sy Go.RowKit

set_option maxRecDepth 1000000

theorem ERound_111 : ((List.range 4).all fun k => roundE (444 + k)) = true := by kernel_rfl
theorem ERound_112 : ((List.range 4).all fun k => roundE (448 + k)) = true := by kernel_rfl
theorem ERound_113 : ((List.range 4).all fun k => roundE (452 + k)) = true := by kernel_rfl
theorem ERound_114 : ((List.range 4).all fun k => roundE (456 + k)) = true := by kernel_rfl
theorem ERound_115 : ((List.range 4).all fun k => roundE (460 + k)) = true := by kernel_rfl
theorem ERound_116 : ((List.range 4).all fun k => roundE (464 + k)) = true := by kernel_rfl

end Go.Proofs.YtfliaagohfoipaaGreat
