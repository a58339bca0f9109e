/-
  What is proved here: the rounds 16 to 30 of plugboardlaw26.HostsFair with 6 pipes are good.
  Conditions: none.
-/
import Derived.Test.YtfliaagohfoipaaGreatFDefs
namespace Go.Proofs.YtfliaagohfoipaaGreat
open Go.Sy Go.RowKit

set_option maxRecDepth 1000000

theorem fa_5_16 : roundF 176 = true := by kernel_rfl
theorem fa_5_17 : roundF 177 = true := by kernel_rfl
theorem fa_5_18 : roundF 178 = true := by kernel_rfl
theorem fa_5_19 : roundF 179 = true := by kernel_rfl
theorem fa_5_20 : roundF 180 = true := by kernel_rfl
theorem fa_5_21 : roundF 181 = true := by kernel_rfl
theorem fa_5_22 : roundF 182 = true := by kernel_rfl
theorem fa_5_23 : roundF 183 = true := by kernel_rfl
theorem fa_5_24 : roundF 184 = true := by kernel_rfl
theorem fa_5_25 : roundF 185 = true := by kernel_rfl
theorem fa_5_26 : roundF 186 = true := by kernel_rfl
theorem fa_5_27 : roundF 187 = true := by kernel_rfl
theorem fa_5_28 : roundF 188 = true := by kernel_rfl
theorem fa_5_29 : roundF 189 = true := by kernel_rfl
theorem fa_5_30 : roundF 190 = true := by kernel_rfl

end Go.Proofs.YtfliaagohfoipaaGreat
