/-
  What is proved here: what comes behind the loop of plugboardlaw26.HostsFrames is good.
  Conditions: none.
-/
import Derived.Test.YtfliaagohfoipaaGreatRDefs
namespace Go.Proofs.YtfliaagohfoipaaGreat
open Go.Sy Go.RowKit

set_option maxRecDepth 1000000

theorem REnd_70 : ((List.range 4).all fun k => endR (280 + k)) = true := by kernel_rfl
theorem REnd_71 : ((List.range 4).all fun k => endR (284 + k)) = true := by kernel_rfl
theorem REnd_72 : ((List.range 4).all fun k => endR (288 + k)) = true := by kernel_rfl
theorem REnd_73 : ((List.range 4).all fun k => endR (292 + k)) = true := by kernel_rfl
theorem REnd_74 : ((List.range 4).all fun k => endR (296 + k)) = true := by kernel_rfl
theorem REnd_75 : ((List.range 4).all fun k => endR (300 + k)) = true := by kernel_rfl
theorem REnd_76 : ((List.range 4).all fun k => endR (304 + k)) = true := by kernel_rfl
theorem REnd_77 : ((List.range 4).all fun k => endR (308 + k)) = true := by kernel_rfl
theorem REnd_78 : ((List.range 4).all fun k => endR (312 + k)) = true := by kernel_rfl
theorem REnd_79 : ((List.range 4).all fun k => endR (316 + k)) = true := by kernel_rfl

end Go.Proofs.YtfliaagohfoipaaGreat
