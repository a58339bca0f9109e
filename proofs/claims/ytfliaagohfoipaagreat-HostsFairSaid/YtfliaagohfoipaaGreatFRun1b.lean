/-
  What is proved here: the rounds 16 to 30 of plugboardlaw26.HostsFair with 2 pipes are good.
  Conditions: none.
-/
import Derived.Test.YtfliaagohfoipaaGreatFDefs
namespace Go.Proofs.YtfliaagohfoipaaGreat
open Go.Sy Go.RowKit

set_option maxRecDepth 1000000

theorem fa_1_16 : roundF 48 = true := by kernel_rfl
theorem fa_1_17 : roundF 49 = true := by kernel_rfl
theorem fa_1_18 : roundF 50 = true := by kernel_rfl
theorem fa_1_19 : roundF 51 = true := by kernel_rfl
theorem fa_1_20 : roundF 52 = true := by kernel_rfl
theorem fa_1_21 : roundF 53 = true := by kernel_rfl
theorem fa_1_22 : roundF 54 = true := by kernel_rfl
theorem fa_1_23 : roundF 55 = true := by kernel_rfl
theorem fa_1_24 : roundF 56 = true := by kernel_rfl
theorem fa_1_25 : roundF 57 = true := by kernel_rfl
theorem fa_1_26 : roundF 58 = true := by kernel_rfl
theorem fa_1_27 : roundF 59 = true := by kernel_rfl
theorem fa_1_28 : roundF 60 = true := by kernel_rfl
theorem fa_1_29 : roundF 61 = true := by kernel_rfl
theorem fa_1_30 : roundF 62 = true := by kernel_rfl

end Go.Proofs.YtfliaagohfoipaaGreat
