/-
  What is proved here: the rounds 16 to 30 of plugboardlaw26.HostsFair with 5 pipes are good.
  Conditions: none.
-/
import Derived.Test.YtfliaagohfoipaaGreatFDefs
namespace Go.Proofs.YtfliaagohfoipaaGreat
open Go.Sy Go.RowKit

set_option maxRecDepth 1000000

theorem fa_4_16 : roundF 144 = true := by kernel_rfl
theorem fa_4_17 : roundF 145 = true := by kernel_rfl
theorem fa_4_18 : roundF 146 = true := by kernel_rfl
theorem fa_4_19 : roundF 147 = true := by kernel_rfl
theorem fa_4_20 : roundF 148 = true := by kernel_rfl
theorem fa_4_21 : roundF 149 = true := by kernel_rfl
theorem fa_4_22 : roundF 150 = true := by kernel_rfl
theorem fa_4_23 : roundF 151 = true := by kernel_rfl
theorem fa_4_24 : roundF 152 = true := by kernel_rfl
theorem fa_4_25 : roundF 153 = true := by kernel_rfl
theorem fa_4_26 : roundF 154 = true := by kernel_rfl
theorem fa_4_27 : roundF 155 = true := by kernel_rfl
theorem fa_4_28 : roundF 156 = true := by kernel_rfl
theorem fa_4_29 : roundF 157 = true := by kernel_rfl
theorem fa_4_30 : roundF 158 = true := by kernel_rfl

end Go.Proofs.YtfliaagohfoipaaGreat
