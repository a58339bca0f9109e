/-
  What is proved here: what comes behind the loop of plugboardlaw26.HostsFrames is good.
  Conditions: none.
-/
import Derived.Test.YtfliaagohfoipaaGreatRDefs
namespace Go.Proofs.YtfliaagohfoipaaGreat
open Go.Sy Go.RowKit

set_option maxRecDepth 1000000

theorem REnd_0 : ((List.range 4).all fun k => endR (0 + k)) = true := by kernel_rfl
theorem REnd_1 : ((List.range 4).all fun k => endR (4 + k)) = true := by kernel_rfl
theorem REnd_2 : ((List.range 4).all fun k => endR (8 + k)) = true := by kernel_rfl
theorem REnd_3 : ((List.range 4).all fun k => endR (12 + k)) = true := by kernel_rfl
theorem REnd_4 : ((List.range 4).all fun k => endR (16 + k)) = true := by kernel_rfl
theorem REnd_5 : ((List.range 4).all fun k => endR (20 + k)) = true := by kernel_rfl
theorem REnd_6 : ((List.range 4).all fun k => endR (24 + k)) = true := by kernel_rfl
theorem REnd_7 : ((List.range 4).all fun k => endR (28 + k)) = true := by kernel_rfl
theorem REnd_8 : ((List.range 4).all fun k => endR (32 + k)) = true := by kernel_rfl
theorem REnd_9 : ((List.range 4).all fun k => endR (36 + k)) = true := by kernel_rfl
theorem REnd_10 : ((List.range 4).all fun k => endR (40 + k)) = true := by kernel_rfl
theorem REnd_11 : ((List.range 4).all fun k => endR (44 + k)) = true := by kernel_rfl
theorem REnd_12 : ((List.range 4).all fun k => endR (48 + k)) = true := by kernel_rfl
theorem REnd_13 : ((List.range 4).all fun k => endR (52 + k)) = true := by kernel_rfl
theorem REnd_14 : ((List.range 4).all fun k => endR (56 + k)) = true := by kernel_rfl
theorem REnd_15 : ((List.range 4).all fun k => endR (60 + k)) = true := by kernel_rfl
theorem REnd_16 : ((List.range 4).all fun k => endR (64 + k)) = true := by kernel_rfl
theorem REnd_17 : ((List.range 4).all fun k => endR (68 + k)) = true := by kernel_rfl
theorem REnd_18 : ((List.range 4).all fun k => endR (72 + k)) = true := by kernel_rfl
theorem REnd_19 : ((List.range 4).all fun k => endR (76 + k)) = true := by kernel_rfl
theorem REnd_20 : ((List.range 4).all fun k => endR (80 + k)) = true := by kernel_rfl
theorem REnd_21 : ((List.range 4).all fun k => endR (84 + k)) = true := by kernel_rfl
theorem REnd_22 : ((List.range 4).all fun k => endR (88 + k)) = true := by kernel_rfl
theorem REnd_23 : ((List.range 4).all fun k => endR (92 + k)) = true := by kernel_rfl
theorem REnd_24 : ((List.range 4).all fun k => endR (96 + k)) = true := by kernel_rfl
theorem REnd_25 : ((List.range 4).all fun k => endR (100 + k)) = true := by kernel_rfl
theorem REnd_26 : ((List.range 4).all fun k => endR (104 + k)) = true := by kernel_rfl
theorem REnd_27 : ((List.range 4).all fun k => endR (108 + k)) = true := by kernel_rfl
theorem REnd_28 : ((List.range 4).all fun k => endR (112 + k)) = true := by kernel_rfl
theorem REnd_29 : ((List.range 4).all fun k => endR (116 + k)) = true := by kernel_rfl
theorem REnd_30 : ((List.range 4).all fun k => endR (120 + k)) = true := by kernel_rfl

end Go.Proofs.YtfliaagohfoipaaGreat
