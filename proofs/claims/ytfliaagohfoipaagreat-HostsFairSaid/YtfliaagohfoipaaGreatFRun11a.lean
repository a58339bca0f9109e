/-
  What is proved here: the rounds 0 to 15 of plugboardlaw26.HostsFair with 12 pipes are good.
  Conditions: none.
-/
import Derived.Test.YtfliaagohfoipaaGreatFDefs
namespace Go.Proofs.YtfliaagohfoipaaGreat
open Go.Sy Go.RowKit

set_option maxRecDepth 1000000

theorem fa_11_0 : roundF 352 = true := by kernel_rfl
theorem fa_11_1 : roundF 353 = true := by kernel_rfl
theorem fa_11_2 : roundF 354 = true := by kernel_rfl
theorem fa_11_3 : roundF 355 = true := by kernel_rfl
theorem fa_11_4 : roundF 356 = true := by kernel_rfl
theorem fa_11_5 : roundF 357 = true := by kernel_rfl
theorem fa_11_6 : roundF 358 = true := by kernel_rfl
theorem fa_11_7 : roundF 359 = true := by kernel_rfl
theorem fa_11_8 : roundF 360 = true := by kernel_rfl
theorem fa_11_9 : roundF 361 = true := by kernel_rfl
theorem fa_11_10 : roundF 362 = true := by kernel_rfl
theorem fa_11_11 : roundF 363 = true := by kernel_rfl
theorem fa_11_12 : roundF 364 = true := by kernel_rfl
theorem fa_11_13 : roundF 365 = true := by kernel_rfl
theorem fa_11_14 : roundF 366 = true := by kernel_rfl
theorem fa_11_15 : roundF 367 = true := by kernel_rfl

end Go.Proofs.YtfliaagohfoipaaGreat
