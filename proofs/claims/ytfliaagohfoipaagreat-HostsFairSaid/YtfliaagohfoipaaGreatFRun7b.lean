/-
  What is proved here: the rounds 16 to 30 of plugboardlaw26.HostsFair with 8 pipes are good.
  Conditions: none.
-/
import Derived.Test.YtfliaagohfoipaaGreatFDefs
namespace Go.Proofs.YtfliaagohfoipaaGreat
open Go.Sy Go.RowKit

set_option maxRecDepth 1000000

theorem fa_7_16 : roundF 240 = true := by kernel_rfl
theorem fa_7_17 : roundF 241 = true := by kernel_rfl
theorem fa_7_18 : roundF 242 = true := by kernel_rfl
theorem fa_7_19 : roundF 243 = true := by kernel_rfl
theorem fa_7_20 : roundF 244 = true := by kernel_rfl
theorem fa_7_21 : roundF 245 = true := by kernel_rfl
theorem fa_7_22 : roundF 246 = true := by kernel_rfl
theorem fa_7_23 : roundF 247 = true := by kernel_rfl
theorem fa_7_24 : roundF 248 = true := by kernel_rfl
theorem fa_7_25 : roundF 249 = true := by kernel_rfl
theorem fa_7_26 : roundF 250 = true := by kernel_rfl
theorem fa_7_27 : roundF 251 = true := by kernel_rfl
theorem fa_7_28 : roundF 252 = true := by kernel_rfl
theorem fa_7_29 : roundF 253 = true := by kernel_rfl
theorem fa_7_30 : roundF 254 = true := by kernel_rfl

end Go.Proofs.YtfliaagohfoipaaGreat
