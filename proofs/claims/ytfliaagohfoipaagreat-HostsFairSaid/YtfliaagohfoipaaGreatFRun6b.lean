/-
  What is proved here: the rounds 16 to 30 of plugboardlaw26.HostsFair with 7 pipes are good.
  Conditions: none.
-/
import Derived.Test.YtfliaagohfoipaaGreatFDefs
namespace Go.Proofs.YtfliaagohfoipaaGreat
open Go.Sy Go.RowKit

set_option maxRecDepth 1000000

theorem fa_6_16 : roundF 208 = true := by kernel_rfl
theorem fa_6_17 : roundF 209 = true := by kernel_rfl
theorem fa_6_18 : roundF 210 = true := by kernel_rfl
theorem fa_6_19 : roundF 211 = true := by kernel_rfl
theorem fa_6_20 : roundF 212 = true := by kernel_rfl
theorem fa_6_21 : roundF 213 = true := by kernel_rfl
theorem fa_6_22 : roundF 214 = true := by kernel_rfl
theorem fa_6_23 : roundF 215 = true := by kernel_rfl
theorem fa_6_24 : roundF 216 = true := by kernel_rfl
theorem fa_6_25 : roundF 217 = true := by kernel_rfl
theorem fa_6_26 : roundF 218 = true := by kernel_rfl
theorem fa_6_27 : roundF 219 = true := by kernel_rfl
theorem fa_6_28 : roundF 220 = true := by kernel_rfl
theorem fa_6_29 : roundF 221 = true := by kernel_rfl
theorem fa_6_30 : roundF 222 = true := by kernel_rfl

end Go.Proofs.YtfliaagohfoipaaGreat
