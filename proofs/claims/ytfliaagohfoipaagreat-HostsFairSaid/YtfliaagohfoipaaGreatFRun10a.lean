/-
  What is proved here: the rounds 0 to 15 of plugboardlaw26.HostsFair with 11 pipes are good.
  Conditions: none.
-/
import Derived.Test.YtfliaagohfoipaaGreatFDefs
namespace Go.Proofs.YtfliaagohfoipaaGreat
open Go.Sy Go.RowKit

set_option maxRecDepth 1000000

theorem fa_10_0 : roundF 320 = true := by kernel_rfl
theorem fa_10_1 : roundF 321 = true := by kernel_rfl
theorem fa_10_2 : roundF 322 = true := by kernel_rfl
theorem fa_10_3 : roundF 323 = true := by kernel_rfl
theorem fa_10_4 : roundF 324 = true := by kernel_rfl
theorem fa_10_5 : roundF 325 = true := by kernel_rfl
theorem fa_10_6 : roundF 326 = true := by kernel_rfl
theorem fa_10_7 : roundF 327 = true := by kernel_rfl
theorem fa_10_8 : roundF 328 = true := by kernel_rfl
theorem fa_10_9 : roundF 329 = true := by kernel_rfl
theorem fa_10_10 : roundF 330 = true := by kernel_rfl
theorem fa_10_11 : roundF 331 = true := by kernel_rfl
theorem fa_10_12 : roundF 332 = true := by kernel_rfl
theorem fa_10_13 : roundF 333 = true := by kernel_rfl
theorem fa_10_14 : roundF 334 = true := by kernel_rfl
theorem fa_10_15 : roundF 335 = true := by kernel_rfl

end Go.Proofs.YtfliaagohfoipaaGreat
