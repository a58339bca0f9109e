/-
  What is proved here: the rounds 0 to 15 of plugboardlaw26.HostsFair with 5 pipes are good.
  Conditions: none.
-/
import Derived.Test.YtfliaagohfoipaaGreatFDefs
namespace Go.Proofs.YtfliaagohfoipaaGreat
open Go.Sy Go.RowKit

set_option maxRecDepth 1000000

theorem fa_4_0 : roundF 128 = true := by kernel_rfl
theorem fa_4_1 : roundF 129 = true := by kernel_rfl
theorem fa_4_2 : roundF 130 = true := by kernel_rfl
theorem fa_4_3 : roundF 131 = true := by kernel_rfl
theorem fa_4_4 : roundF 132 = true := by kernel_rfl
theorem fa_4_5 : roundF 133 = true := by kernel_rfl
theorem fa_4_6 : roundF 134 = true := by kernel_rfl
theorem fa_4_7 : roundF 135 = true := by kernel_rfl
theorem fa_4_8 : roundF 136 = true := by kernel_rfl
theorem fa_4_9 : roundF 137 = true := by kernel_rfl
theorem fa_4_10 : roundF 138 = true := by kernel_rfl
theorem fa_4_11 : roundF 139 = true := by kernel_rfl
theorem fa_4_12 : roundF 140 = true := by kernel_rfl
theorem fa_4_13 : roundF 141 = true := by kernel_rfl
theorem fa_4_14 : roundF 142 = true := by kernel_rfl
theorem fa_4_15 : roundF 143 = true := by kernel_rfl

end Go.Proofs.YtfliaagohfoipaaGreat
