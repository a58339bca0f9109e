/-
  What is proved here: the rounds 0 to 15 of plugboardlaw26.HostsFair with 1 pipes are good.
  Conditions: none.
-/
import Derived.Test.YtfliaagohfoipaaGreatFDefs
namespace Go.Proofs.YtfliaagohfoipaaGreat
open Go.Sy Go.RowKit

set_option maxRecDepth 1000000

theorem fa_0_0 : roundF 0 = true := by kernel_rfl
theorem fa_0_1 : roundF 1 = true := by kernel_rfl
theorem fa_0_2 : roundF 2 = true := by kernel_rfl
theorem fa_0_3 : roundF 3 = true := by kernel_rfl
theorem fa_0_4 : roundF 4 = true := by kernel_rfl
theorem fa_0_5 : roundF 5 = true := by kernel_rfl
theorem fa_0_6 : roundF 6 = true := by kernel_rfl
theorem fa_0_7 : roundF 7 = true := by kernel_rfl
theorem fa_0_8 : roundF 8 = true := by kernel_rfl
theorem fa_0_9 : roundF 9 = true := by kernel_rfl
theorem fa_0_10 : roundF 10 = true := by kernel_rfl
theorem fa_0_11 : roundF 11 = true := by kernel_rfl
theorem fa_0_12 : roundF 12 = true := by kernel_rfl
theorem fa_0_13 : roundF 13 = true := by kernel_rfl
theorem fa_0_14 : roundF 14 = true := by kernel_rfl
theorem fa_0_15 : roundF 15 = true := by kernel_rfl

end Go.Proofs.YtfliaagohfoipaaGreat
