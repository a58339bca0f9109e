/-
  What is proved here: the rounds 16 to 30 of plugboardlaw26.HostsFair with 3 pipes are good.
  Conditions: none.
-/
import Derived.Test.YtfliaagohfoipaaGreatFDefs
namespace Go.Proofs.YtfliaagohfoipaaGreat
open Go.Sy Go.RowKit

set_option maxRecDepth 1000000

theorem fa_2_16 : roundF 80 = true := by kernel_rfl
theorem fa_2_17 : roundF 81 = true := by kernel_rfl
theorem fa_2_18 : roundF 82 = true := by kernel_rfl
theorem fa_2_19 : roundF 83 = true := by kernel_rfl
theorem fa_2_20 : roundF 84 = true := by kernel_rfl
theorem fa_2_21 : roundF 85 = true := by kernel_rfl
theorem fa_2_22 : roundF 86 = true := by kernel_rfl
theorem fa_2_23 : roundF 87 = true := by kernel_rfl
theorem fa_2_24 : roundF 88 = true := by kernel_rfl
theorem fa_2_25 : roundF 89 = true := by kernel_rfl
theorem fa_2_26 : roundF 90 = true := by kernel_rfl
theorem fa_2_27 : roundF 91 = true := by kernel_rfl
theorem fa_2_28 : roundF 92 = true := by kernel_rfl
theorem fa_2_29 : roundF 93 = true := by kernel_rfl
theorem fa_2_30 : roundF 94 = true := by kernel_rfl

end Go.Proofs.YtfliaagohfoipaaGreat
