/-
  What is proved here: the rounds 16 to 30 of plugboardlaw26.HostsFair with 9 pipes are good.
  Conditions: none.
-/
import Derived.Test.YtfliaagohfoipaaGreatFDefs
namespace Go.Proofs.YtfliaagohfoipaaGreat
open Go.Sy Go.RowKit

set_option maxRecDepth 1000000

theorem fa_8_16 : roundF 272 = true := by kernel_rfl
theorem fa_8_17 : roundF 273 = true := by kernel_rfl
theorem fa_8_18 : roundF 274 = true := by kernel_rfl
theorem fa_8_19 : roundF 275 = true := by kernel_rfl
theorem fa_8_20 : roundF 276 = true := by kernel_rfl
theorem fa_8_21 : roundF 277 = true := by kernel_rfl
theorem fa_8_22 : roundF 278 = true := by kernel_rfl
theorem fa_8_23 : roundF 279 = true := by kernel_rfl
theorem fa_8_24 : roundF 280 = true := by kernel_rfl
theorem fa_8_25 : roundF 281 = true := by kernel_rfl
theorem fa_8_26 : roundF 282 = true := by kernel_rfl
theorem fa_8_27 : roundF 283 = true := by kernel_rfl
theorem fa_8_28 : roundF 284 = true := by kernel_rfl
theorem fa_8_29 : roundF 285 = true := by kernel_rfl
theorem fa_8_30 : roundF 286 = true := by kernel_rfl

end Go.Proofs.YtfliaagohfoipaaGreat
