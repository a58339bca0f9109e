/-
  What is proved here: the rounds 16 to 30 of plugboardlaw26.HostsFair with 12 pipes are good.
  Conditions: none.
-/
import Derived.Test.YtfliaagohfoipaaGreatFDefs
namespace Go.Proofs.YtfliaagohfoipaaGreat
open Go.Sy Go.RowKit

set_option maxRecDepth 1000000

theorem fa_11_16 : roundF 368 = true := by kernel_rfl
theorem fa_11_17 : roundF 369 = true := by kernel_rfl
theorem fa_11_18 : roundF 370 = true := by kernel_rfl
theorem fa_11_19 : roundF 371 = true := by kernel_rfl
theorem fa_11_20 : roundF 372 = true := by kernel_rfl
theorem fa_11_21 : roundF 373 = true := by kernel_rfl
theorem fa_11_22 : roundF 374 = true := by kernel_rfl
theorem fa_11_23 : roundF 375 = true := by kernel_rfl
theorem fa_11_24 : roundF 376 = true := by kernel_rfl
theorem fa_11_25 : roundF 377 = true := by kernel_rfl
theorem fa_11_26 : roundF 378 = true := by kernel_rfl
theorem fa_11_27 : roundF 379 = true := by kernel_rfl
theorem fa_11_28 : roundF 380 = true := by kernel_rfl
theorem fa_11_29 : roundF 381 = true := by kernel_rfl
theorem fa_11_30 : roundF 382 = true := by kernel_rfl

end Go.Proofs.YtfliaagohfoipaaGreat
