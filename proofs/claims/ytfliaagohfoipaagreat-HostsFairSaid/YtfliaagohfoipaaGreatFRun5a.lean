/-
  What is proved here: the rounds 0 to 15 of plugboardlaw26.HostsFair with 6 pipes are good.
  Conditions: none.
-/
import Derived.Test.YtfliaagohfoipaaGreatFDefs
namespace Go.Proofs.YtfliaagohfoipaaGreat
open Go.Sy Go.RowKit

set_option maxRecDepth 1000000

theorem fa_5_0 : roundF 160 = true := by kernel_rfl
theorem fa_5_1 : roundF 161 = true := by kernel_rfl
theorem fa_5_2 : roundF 162 = true := by kernel_rfl
theorem fa_5_3 : roundF 163 = true := by kernel_rfl
theorem fa_5_4 : roundF 164 = true := by kernel_rfl
theorem fa_5_5 : roundF 165 = true := by kernel_rfl
theorem fa_5_6 : roundF 166 = true := by kernel_rfl
theorem fa_5_7 : roundF 167 = true := by kernel_rfl
theorem fa_5_8 : roundF 168 = true := by kernel_rfl
theorem fa_5_9 : roundF 169 = true := by kernel_rfl
theorem fa_5_10 : roundF 170 = true := by kernel_rfl
theorem fa_5_11 : roundF 171 = true := by kernel_rfl
theorem fa_5_12 : roundF 172 = true := by kernel_rfl
theorem fa_5_13 : roundF 173 = true := by kernel_rfl
theorem fa_5_14 : roundF 174 = true := by kernel_rfl
theorem fa_5_15 : roundF 175 = true := by kernel_rfl

end Go.Proofs.YtfliaagohfoipaaGreat
