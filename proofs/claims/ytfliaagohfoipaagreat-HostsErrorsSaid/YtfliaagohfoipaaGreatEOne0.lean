/-
  What is proved here: plugboardlaw26.HostsErrors up to its loop, for isochronous pipes, by their periods.
  Conditions: none.
-/
import Derived.Test.YtfliaagohfoipaaGreatEDefs
namespace Go.Proofs.YtfliaagohfoipaaGreat
open Go.Sy Go.RowKit

set_option maxRecDepth 1000000

theorem EOne_0 : ((List.range 8).all fun k => headV 1 (0 + k)) = true := by kernel_rfl
theorem EOne_1 : ((List.range 8).all fun k => headV 1 (8 + k)) = true := by kernel_rfl
theorem EOne_2 : ((List.range 8).all fun k => headV 1 (16 + k)) = true := by kernel_rfl
theorem EOne_3 : ((List.range 8).all fun k => headV 1 (24 + k)) = true := by kernel_rfl
theorem EOne_4 : ((List.range 8).all fun k => headV 1 (32 + k)) = true := by kernel_rfl
theorem EOne_5 : ((List.range 8).all fun k => headV 1 (40 + k)) = true := by kernel_rfl
theorem EOne_6 : ((List.range 8).all fun k => headV 1 (48 + k)) = true := by kernel_rfl
theorem EOne_7 : ((List.range 8).all fun k => headV 1 (56 + k)) = true := by kernel_rfl
theorem EOne_8 : ((List.range 8).all fun k => headV 1 (64 + k)) = true := by kernel_rfl
theorem EOne_9 : ((List.range 8).all fun k => headV 1 (72 + k)) = true := by kernel_rfl
theorem EOne_10 : ((List.range 8).all fun k => headV 1 (80 + k)) = true := by kernel_rfl
theorem EOne_11 : ((List.range 8).all fun k => headV 1 (88 + k)) = true := by kernel_rfl

end Go.Proofs.YtfliaagohfoipaaGreat
