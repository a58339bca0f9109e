/-
  What is proved here: rounds of plugboardlaw26.HostsErrors are good.
  Conditions: none.
-/
import Derived.Test.YtfliaagohfoipaaGreatEDefs
namespace Go.Proofs.YtfliaagohfoipaaGreat
open Go.Sy Go.RowKit

set_option maxRecDepth 1000000

theorem ERound_123 : ((List.range 4).all fun k => roundE (492 + k)) = true := by kernel_rfl
theorem ERound_124 : ((List.range 4).all fun k => roundE (496 + k)) = true := by kernel_rfl
theorem ERound_125 : ((List.range 4).all fun k => roundE (500 + k)) = true := by kernel_rfl
theorem ERound_126 : ((List.range 4).all fun k => roundE (504 + k)) = true := by kernel_rfl
theorem ERound_127 : ((List.range 4).all fun k => roundE (508 + k)) = true := by kernel_rfl
theorem ERound_128 : ((List.range 4).all fun k => roundE (512 + k)) = true := by kernel_rfl

end Go.Proofs.YtfliaagohfoipaaGreat
