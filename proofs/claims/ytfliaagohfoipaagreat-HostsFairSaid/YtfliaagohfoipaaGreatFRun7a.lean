/-
  What is proved here: the rounds 0 to 15 of plugboardlaw26.HostsFair with 8 pipes are good.
  Conditions: none.
-/
import Derived.Test.YtfliaagohfoipaaGreatFDefs
namespace Go.Proofs.YtfliaagohfoipaaGreat
open Go.Sy Go.RowKit

set_option maxRecDepth 1000000

theorem fa_7_0 : roundF 224 = true := by kernel_rfl
theorem fa_7_1 : roundF 225 = true := by kernel_rfl
theorem fa_7_2 : roundF 226 = true := by kernel_rfl
theorem fa_7_3 : roundF 227 = true := by kernel_rfl
theorem fa_7_4 : roundF 228 = true := by kernel_rfl
theorem fa_7_5 : roundF 229 = true := by kernel_rfl
theorem fa_7_6 : roundF 230 = true := by kernel_rfl
theorem fa_7_7 : roundF 231 = true := by kernel_rfl
theorem fa_7_8 : roundF 232 = true := by kernel_rfl
theorem fa_7_9 : roundF 233 = true := by kernel_rfl
theorem fa_7_10 : roundF 234 = true := by kernel_rfl
theorem fa_7_11 : roundF 235 = true := by kernel_rfl
theorem fa_7_12 : roundF 236 = true := by kernel_rfl
theorem fa_7_13 : roundF 237 = true := by kernel_rfl
theorem fa_7_14 : roundF 238 = true := by kernel_rfl
theorem fa_7_15 : roundF 239 = true := by kernel_rfl

end Go.Proofs.YtfliaagohfoipaaGreat
