/-
  What is proved here: plugboardlaw26.HostsErrors up to its loop, for interrupt pipes, by their periods.
  Conditions: none.
-/
import Derived.Test.YtfliaagohfoipaaGreatEDefs
namespace Go.Proofs.YtfliaagohfoipaaGreat
open Go.Sy Go.RowKit

set_option maxRecDepth 1000000

theorem EThree_12 : ((List.range 8).all fun k => headV 3 (96 + k)) = true := by kernel_rfl
theorem EThree_13 : ((List.range 8).all fun k => headV 3 (104 + k)) = true := by kernel_rfl
theorem EThree_14 : ((List.range 8).all fun k => headV 3 (112 + k)) = true := by kernel_rfl
theorem EThree_15 : ((List.range 8).all fun k => headV 3 (120 + k)) = true := by kernel_rfl
theorem EThree_16 : ((List.range 8).all fun k => headV 3 (128 + k)) = true := by kernel_rfl
theorem EThree_17 : ((List.range 8).all fun k => headV 3 (136 + k)) = true := by kernel_rfl
theorem EThree_18 : ((List.range 8).all fun k => headV 3 (144 + k)) = true := by kernel_rfl
theorem EThree_19 : ((List.range 8).all fun k => headV 3 (152 + k)) = true := by kernel_rfl
theorem EThree_20 : ((List.range 8).all fun k => headV 3 (160 + k)) = true := by kernel_rfl
theorem EThree_21 : ((List.range 8).all fun k => headV 3 (168 + k)) = true := by kernel_rfl
theorem EThree_22 : ((List.range 8).all fun k => headV 3 (176 + k)) = true := by kernel_rfl
theorem EThree_23 : ((List.range 8).all fun k => headV 3 (184 + k)) = true := by kernel_rfl
theorem EThree_24 : ((List.range 8).all fun k => headV 3 (192 + k)) = true := by kernel_rfl
theorem EThree_25 : ((List.range 8).all fun k => headV 3 (200 + k)) = true := by kernel_rfl
theorem EThree_26 : ((List.range 8).all fun k => headV 3 (208 + k)) = true := by kernel_rfl
theorem EThree_27 : ((List.range 8).all fun k => headV 3 (216 + k)) = true := by kernel_rfl
theorem EThree_28 : ((List.range 8).all fun k => headV 3 (224 + k)) = true := by kernel_rfl
theorem EThree_29 : ((List.range 8).all fun k => headV 3 (232 + k)) = true := by kernel_rfl
theorem EThree_30 : ((List.range 8).all fun k => headV 3 (240 + k)) = true := by kernel_rfl
theorem EThree_31 : ((List.range 8).all fun k => headV 3 (248 + k)) = true := by kernel_rfl

end Go.Proofs.YtfliaagohfoipaaGreat
