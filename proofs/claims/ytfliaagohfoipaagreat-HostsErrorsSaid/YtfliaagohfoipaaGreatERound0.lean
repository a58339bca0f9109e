/-
  What is proved here: rounds of plugboardlaw26.HostsErrors are good.
  Conditions: none.
-/
import Derived.Test.YtfliaagohfoipaaGreatEDefs
namespace Go.Proofs.YtfliaagohfoipaaGreat
open Go.Sy Go.RowKit

set_option maxRecDepth 1000000

theorem ERound_0 : ((List.range 4).all fun k => roundE (0 + k)) = true := by kernel_rfl
theorem ERound_1 : ((List.range 4).all fun k => roundE (4 + k)) = true := by kernel_rfl
theorem ERound_2 : ((List.range 4).all fun k => roundE (8 + k)) = true := by kernel_rfl
theorem ERound_3 : ((List.range 4).all fun k => roundE (12 + k)) = true := by kernel_rfl
theorem ERound_4 : ((List.range 4).all fun k => roundE (16 + k)) = true := by kernel_rfl
theorem ERound_5 : ((List.range 4).all fun k => roundE (20 + k)) = true := by kernel_rfl
theorem ERound_6 : ((List.range 4).all fun k => roundE (24 + k)) = true := by kernel_rfl
theorem ERound_7 : ((List.range 4).all fun k => roundE (28 + k)) = true := by kernel_rfl
theorem ERound_8 : ((List.range 4).all fun k => roundE (32 + k)) = true := by kernel_rfl
theorem ERound_9 : ((List.range 4).all fun k => roundE (36 + k)) = true := by kernel_rfl
theorem ERound_10 : ((List.range 4).all fun k => roundE (40 + k)) = true := by kernel_rfl
theorem ERound_11 : ((List.range 4).all fun k => roundE (44 + k)) = true := by kernel_rfl
theorem ERound_12 : ((List.range 4).all fun k => roundE (48 + k)) = true := by kernel_rfl
theorem ERound_13 : ((List.range 4).all fun k => roundE (52 + k)) = true := by kernel_rfl
theorem ERound_14 : ((List.range 4).all fun k => roundE (56 + k)) = true := by kernel_rfl
theorem ERound_15 : ((List.range 4).all fun k => roundE (60 + k)) = true := by kernel_rfl
theorem ERound_16 : ((List.range 4).all fun k => roundE (64 + k)) = true := by kernel_rfl
theorem ERound_17 : ((List.range 4).all fun k => roundE (68 + k)) = true := by kernel_rfl
theorem ERound_18 : ((List.range 4).all fun k => roundE (72 + k)) = true := by kernel_rfl
theorem ERound_19 : ((List.range 4).all fun k => roundE (76 + k)) = true := by kernel_rfl
theorem ERound_20 : ((List.range 4).all fun k => roundE (80 + k)) = true := by kernel_rfl
theorem ERound_21 : ((List.range 4).all fun k => roundE (84 + k)) = true := by kernel_rfl
theorem ERound_22 : ((List.range 4).all fun k => roundE (88 + k)) = true := by kernel_rfl
theorem ERound_23 : ((List.range 4).all fun k => roundE (92 + k)) = true := by kernel_rfl
theorem ERound_24 : ((List.range 4).all fun k => roundE (96 + k)) = true := by kernel_rfl
theorem ERound_25 : ((List.range 4).all fun k => roundE (100 + k)) = true := by kernel_rfl
theorem ERound_26 : ((List.range 4).all fun k => roundE (104 + k)) = true := by kernel_rfl
theorem ERound_27 : ((List.range 4).all fun k => roundE (108 + k)) = true := by kernel_rfl
theorem ERound_28 : ((List.range 4).all fun k => roundE (112 + k)) = true := by kernel_rfl
theorem ERound_29 : ((List.range 4).all fun k => roundE (116 + k)) = true := by kernel_rfl
theorem ERound_30 : ((List.range 4).all fun k => roundE (120 + k)) = true := by kernel_rfl
theorem ERound_31 : ((List.range 4).all fun k => roundE (124 + k)) = true := by kernel_rfl
theorem ERound_32 : ((List.range 4).all fun k => roundE (128 + k)) = true := by kernel_rfl

end Go.Proofs.YtfliaagohfoipaaGreat
