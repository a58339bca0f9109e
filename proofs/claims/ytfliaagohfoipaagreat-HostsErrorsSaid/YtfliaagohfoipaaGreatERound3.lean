/-
  What is proved here: rounds of plugboardlaw26.HostsErrors are good.
  Conditions: none.
-/
import Derived.Test.YtfliaagohfoipaaGreatEDefs
namespace Go.Proofs.YtfliaagohfoipaaGreat
open Go.Sy Go.RowKit

set_option maxRecDepth 1000000

theorem ERound_61 : ((List.range 4).all fun k => roundE (244 + k)) = true := by kernel_rfl
theorem ERound_62 : ((List.range 4).all fun k => roundE (248 + k)) = true := by kernel_rfl
theorem ERound_63 : ((List.range 4).all fun k => roundE (252 + k)) = true := by kernel_rfl
theorem ERound_64 : ((List.range 4).all fun k => roundE (256 + k)) = true := by kernel_rfl
theorem ERound_65 : ((List.range 4).all fun k => roundE (260 + k)) = true := by kernel_rfl
theorem ERound_66 : ((List.range 4).all fun k => roundE (264 + k)) = true := by kernel_rfl
theorem ERound_67 : ((List.range 4).all fun k => roundE (268 + k)) = true := by kernel_rfl
theorem ERound_68 : ((List.range 4).all fun k => roundE (272 + k)) = true := by kernel_rfl
theorem ERound_69 : ((List.range 4).all fun k => roundE (276 + k)) = true := by kernel_rfl
theorem ERound_70 : ((List.range 4).all fun k => roundE (280 + k)) = true := by kernel_rfl
theorem ERound_71 : ((List.range 4).all fun k => roundE (284 + k)) = true := by kernel_rfl

end Go.Proofs.YtfliaagohfoipaaGreat
