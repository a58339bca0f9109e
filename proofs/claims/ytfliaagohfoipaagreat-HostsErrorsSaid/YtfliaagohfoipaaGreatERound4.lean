/-
  What is proved here: rounds of plugboardlaw26.HostsErrors are good.
  Conditions: none.
-/
import Derived.Test.YtfliaagohfoipaaGreatEDefs
namespace Go.Proofs.YtfliaagohfoipaaGreat
open Go.Sy Go.RowKit

set_option maxRecDepth 1000000

theorem ERound_72 : ((List.range 4).all fun k => roundE (288 + k)) = true := by kernel_rfl
theorem ERound_73 : ((List.range 4).all fun k => roundE (292 + k)) = true := by kernel_rfl
theorem ERound_74 : ((List.range 4).all fun k => roundE (296 + k)) = true := by kernel_rfl
theorem ERound_75 : ((List.range 4).all fun k => roundE (300 + k)) = true := by kernel_rfl
theorem ERound_76 : ((List.range 4).all fun k => roundE (304 + k)) = true := by kernel_rfl
theorem ERound_77 : ((List.range 4).all fun k => roundE (308 + k)) = true := by kernel_rfl
theorem ERound_78 : ((List.range 4).all fun k => roundE (312 + k)) = true := by kernel_rfl
theorem ERound_79 : ((List.range 4).all fun k => roundE (316 + k)) = true := by kernel_rfl
theorem ERound_80 : ((List.range 4).all fun k => roundE (320 + k)) = true := by kernel_rfl

end Go.Proofs.YtfliaagohfoipaaGreat
