/-
  What is proved here: the rounds 0 to 15 of plugboardlaw26.HostsFair with 3 pipes are good.
  Conditions: none.
-/
import Derived.Test.YtfliaagohfoipaaGreatFDefs
namespace Go.Proofs.YtfliaagohfoipaaGreat
open Go.Sy Go.RowKit

set_option maxRecDepth 1000000

theorem fa_2_0 : roundF 64 = true := by kernel_rfl
theorem fa_2_1 : roundF 65 = true := by kernel_rfl
theorem fa_2_2 : roundF 66 = true := by kernel_rfl
theorem fa_2_3 : roundF 67 = true := by kernel_rfl
theorem fa_2_4 : roundF 68 = true := by kernel_rfl
theorem fa_2_5 : roundF 69 = true := by kernel_rfl
theorem fa_2_6 : roundF 70 = true := by kernel_rfl
theorem fa_2_7 : roundF 71 = true := by kernel_rfl
theorem fa_2_8 : roundF 72 = true := by kernel_rfl
theorem fa_2_9 : roundF 73 = true := by kernel_rfl
theorem fa_2_10 : roundF 74 = true := by kernel_rfl
theorem fa_2_11 : roundF 75 = true := by kernel_rfl
theorem fa_2_12 : roundF 76 = true := by kernel_rfl
theorem fa_2_13 : roundF 77 = true := by kernel_rfl
theorem fa_2_14 : roundF 78 = true := by kernel_rfl
theorem fa_2_15 : roundF 79 = true := by kernel_rfl

end Go.Proofs.YtfliaagohfoipaaGreat
