/-
  What is proved here: the rounds 16 to 30 of plugboardlaw26.HostsFair with 1 pipes are good.
  Conditions: none.
-/
import Derived.Test.YtfliaagohfoipaaGreatFDefs
namespace Go.Proofs.YtfliaagohfoipaaGreat
open Go.Sy Go.RowKit

set_option maxRecDepth 1000000

theorem fa_0_16 : roundF 16 = true := by kernel_rfl
theorem fa_0_17 : roundF 17 = true := by kernel_rfl
theorem fa_0_18 : roundF 18 = true := by kernel_rfl
theorem fa_0_19 : roundF 19 = true := by kernel_rfl
theorem fa_0_20 : roundF 20 = true := by kernel_rfl
theorem fa_0_21 : roundF 21 = true := by kernel_rfl
theorem fa_0_22 : roundF 22 = true := by kernel_rfl
theorem fa_0_23 : roundF 23 = true := by kernel_rfl
theorem fa_0_24 : roundF 24 = true := by kernel_rfl
theorem fa_0_25 : roundF 25 = true := by kernel_rfl
theorem fa_0_26 : roundF 26 = true := by kernel_rfl
theorem fa_0_27 : roundF 27 = true := by kernel_rfl
theorem fa_0_28 : roundF 28 = true := by kernel_rfl
theorem fa_0_29 : roundF 29 = true := by kernel_rfl
theorem fa_0_30 : roundF 30 = true := by kernel_rfl

end Go.Proofs.YtfliaagohfoipaaGreat
