/-
  What is proved here: the rounds 0 to 15 of plugboardlaw26.HostsFair with 7 pipes are good.
  Conditions: none.
-/
import Derived.Test.YtfliaagohfoipaaGreatFDefs
namespace Go.Proofs.YtfliaagohfoipaaGreat
open Go.Sy Go.RowKit

set_option maxRecDepth 1000000

theorem fa_6_0 : roundF 192 = true := by kernel_rfl
theorem fa_6_1 : roundF 193 = true := by kernel_rfl
theorem fa_6_2 : roundF 194 = true := by kernel_rfl
theorem fa_6_3 : roundF 195 = true := by kernel_rfl
theorem fa_6_4 : roundF 196 = true := by kernel_rfl
theorem fa_6_5 : roundF 197 = true := by kernel_rfl
theorem fa_6_6 : roundF 198 = true := by kernel_rfl
theorem fa_6_7 : roundF 199 = true := by kernel_rfl
theorem fa_6_8 : roundF 200 = true := by kernel_rfl
theorem fa_6_9 : roundF 201 = true := by kernel_rfl
theorem fa_6_10 : roundF 202 = true := by kernel_rfl
theorem fa_6_11 : roundF 203 = true := by kernel_rfl
theorem fa_6_12 : roundF 204 = true := by kernel_rfl
theorem fa_6_13 : roundF 205 = true := by kernel_rfl
theorem fa_6_14 : roundF 206 = true := by kernel_rfl
theorem fa_6_15 : roundF 207 = true := by kernel_rfl

end Go.Proofs.YtfliaagohfoipaaGreat
