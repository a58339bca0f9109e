/-
  What is proved here: plugboardlaw26.HostsErrors up to its loop, for interrupt pipes, by their periods.
  Conditions: none.
-/
import Derived.Test.YtfliaagohfoipaaGreatEDefs
namespace Go.Proofs.YtfliaagohfoipaaGreat
open Go.Sy Go.RowKit

set_option maxRecDepth 1000000

theorem EThree_0 : ((List.range 8).all fun k => headV 3 (0 + k)) = true := by kernel_rfl
theorem EThree_1 : ((List.range 8).all fun k => headV 3 (8 + k)) = true := by kernel_rfl
theorem EThree_2 : ((List.range 8).all fun k => headV 3 (16 + k)) = true := by kernel_rfl
theorem EThree_3 : ((List.range 8).all fun k => headV 3 (24 + k)) = true := by kernel_rfl
theorem EThree_4 : ((List.range 8).all fun k => headV 3 (32 + k)) = true := by kernel_rfl
theorem EThree_5 : ((List.range 8).all fun k => headV 3 (40 + k)) = true := by kernel_rfl
theorem EThree_6 : ((List.range 8).all fun k => headV 3 (48 + k)) = true := by kernel_rfl
theorem EThree_7 : ((List.range 8).all fun k => headV 3 (56 + k)) = true := by kernel_rfl
theorem EThree_8 : ((List.range 8).all fun k => headV 3 (64 + k)) = true := by kernel_rfl
theorem EThree_9 : ((List.range 8).all fun k => headV 3 (72 + k)) = true := by kernel_rfl
theorem EThree_10 : ((List.range 8).all fun k => headV 3 (80 + k)) = true := by kernel_rfl
theorem EThree_11 : ((List.range 8).all fun k => headV 3 (88 + k)) = true := by kernel_rfl

end Go.Proofs.YtfliaagohfoipaaGreat
