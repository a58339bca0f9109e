/-
  What is proved here: the rounds 16 to 30 of plugboardlaw26.HostsFair with 4 pipes are good.
  Conditions: none.
-/
import Derived.Test.YtfliaagohfoipaaGreatFDefs
namespace Go.Proofs.YtfliaagohfoipaaGreat
open Go.Sy Go.RowKit

set_option maxRecDepth 1000000

theorem fa_3_16 : roundF 112 = true := by kernel_rfl
theorem fa_3_17 : roundF 113 = true := by kernel_rfl
theorem fa_3_18 : roundF 114 = true := by kernel_rfl
theorem fa_3_19 : roundF 115 = true := by kernel_rfl
theorem fa_3_20 : roundF 116 = true := by kernel_rfl
theorem fa_3_21 : roundF 117 = true := by kernel_rfl
theorem fa_3_22 : roundF 118 = true := by kernel_rfl
theorem fa_3_23 : roundF 119 = true := by kernel_rfl
theorem fa_3_24 : roundF 120 = true := by kernel_rfl
theorem fa_3_25 : roundF 121 = true := by kernel_rfl
theorem fa_3_26 : roundF 122 = true := by kernel_rfl
theorem fa_3_27 : roundF 123 = true := by kernel_rfl
theorem fa_3_28 : roundF 124 = true := by kernel_rfl
theorem fa_3_29 : roundF 125 = true := by kernel_rfl
theorem fa_3_30 : roundF 126 = true := by kernel_rfl

end Go.Proofs.YtfliaagohfoipaaGreat
