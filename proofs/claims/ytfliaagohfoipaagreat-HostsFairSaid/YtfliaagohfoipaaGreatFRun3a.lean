/-
  What is proved here: the rounds 0 to 15 of plugboardlaw26.HostsFair with 4 pipes are good.
  Conditions: none.
-/
import Derived.Test.YtfliaagohfoipaaGreatFDefs
namespace Go.Proofs.YtfliaagohfoipaaGreat
open Go.Sy Go.RowKit

set_option maxRecDepth 1000000

theorem fa_3_0 : roundF 96 = true := by kernel_rfl
theorem fa_3_1 : roundF 97 = true := by kernel_rfl
theorem fa_3_2 : roundF 98 = true := by kernel_rfl
theorem fa_3_3 : roundF 99 = true := by kernel_rfl
theorem fa_3_4 : roundF 100 = true := by kernel_rfl
theorem fa_3_5 : roundF 101 = true := by kernel_rfl
theorem fa_3_6 : roundF 102 = true := by kernel_rfl
theorem fa_3_7 : roundF 103 = true := by kernel_rfl
theorem fa_3_8 : roundF 104 = true := by kernel_rfl
theorem fa_3_9 : roundF 105 = true := by kernel_rfl
theorem fa_3_10 : roundF 106 = true := by kernel_rfl
theorem fa_3_11 : roundF 107 = true := by kernel_rfl
theorem fa_3_12 : roundF 108 = true := by kernel_rfl
theorem fa_3_13 : roundF 109 = true := by kernel_rfl
theorem fa_3_14 : roundF 110 = true := by kernel_rfl
theorem fa_3_15 : roundF 111 = true := by kernel_rfl

end Go.Proofs.YtfliaagohfoipaaGreat
