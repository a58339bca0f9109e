/-
  What is proved here: the rounds 0 to 15 of plugboardlaw26.HostsFair with 2 pipes are good.
  Conditions: none.
-/
import Derived.Test.YtfliaagohfoipaaGreatFDefs
namespace Go.Proofs.YtfliaagohfoipaaGreat
open Go.Sy Go.RowKit

set_option maxRecDepth 1000000

theorem fa_1_0 : roundF 32 = true := by kernel_rfl
theorem fa_1_1 : roundF 33 = true := by kernel_rfl
theorem fa_1_2 : roundF 34 = true := by kernel_rfl
theorem fa_1_3 : roundF 35 = true := by kernel_rfl
theorem fa_1_4 : roundF 36 = true := by kernel_rfl
theorem fa_1_5 : roundF 37 = true := by kernel_rfl
theorem fa_1_6 : roundF 38 = true := by kernel_rfl
theorem fa_1_7 : roundF 39 = true := by kernel_rfl
theorem fa_1_8 : roundF 40 = true := by kernel_rfl
theorem fa_1_9 : roundF 41 = true := by kernel_rfl
theorem fa_1_10 : roundF 42 = true := by kernel_rfl
theorem fa_1_11 : roundF 43 = true := by kernel_rfl
theorem fa_1_12 : roundF 44 = true := by kernel_rfl
theorem fa_1_13 : roundF 45 = true := by kernel_rfl
theorem fa_1_14 : roundF 46 = true := by kernel_rfl
theorem fa_1_15 : roundF 47 = true := by kernel_rfl

end Go.Proofs.YtfliaagohfoipaaGreat
