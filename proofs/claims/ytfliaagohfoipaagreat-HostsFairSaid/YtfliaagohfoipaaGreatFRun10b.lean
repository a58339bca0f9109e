/-
  What is proved here: the rounds 16 to 30 of plugboardlaw26.HostsFair with 11 pipes are good.
  Conditions: none.
-/
import Derived.Test.YtfliaagohfoipaaGreatFDefs
namespace Go.Proofs.YtfliaagohfoipaaGreat
open Go.Sy Go.RowKit

set_option maxRecDepth 1000000

theorem fa_10_16 : roundF 336 = true := by kernel_rfl
theorem fa_10_17 : roundF 337 = true := by kernel_rfl
theorem fa_10_18 : roundF 338 = true := by kernel_rfl
theorem fa_10_19 : roundF 339 = true := by kernel_rfl
theorem fa_10_20 : roundF 340 = true := by kernel_rfl
theorem fa_10_21 : roundF 341 = true := by kernel_rfl
theorem fa_10_22 : roundF 342 = true := by kernel_rfl
theorem fa_10_23 : roundF 343 = true := by kernel_rfl
theorem fa_10_24 : roundF 344 = true := by kernel_rfl
theorem fa_10_25 : roundF 345 = true := by kernel_rfl
theorem fa_10_26 : roundF 346 = true := by kernel_rfl
theorem fa_10_27 : roundF 347 = true := by kernel_rfl
theorem fa_10_28 : roundF 348 = true := by kernel_rfl
theorem fa_10_29 : roundF 349 = true := by kernel_rfl
theorem fa_10_30 : roundF 350 = true := by kernel_rfl

end Go.Proofs.YtfliaagohfoipaaGreat
