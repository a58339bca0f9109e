/-
  What is proved here: the rounds 0 to 15 of plugboardlaw26.HostsFair with 9 pipes are good.
  Conditions: none.
-/
import Derived.Test.YtfliaagohfoipaaGreatFDefs
namespace Go.Proofs.YtfliaagohfoipaaGreat
open Go.Sy Go.RowKit

set_option maxRecDepth 1000000

theorem fa_8_0 : roundF 256 = true := by kernel_rfl
theorem fa_8_1 : roundF 257 = true := by kernel_rfl
theorem fa_8_2 : roundF 258 = true := by kernel_rfl
theorem fa_8_3 : roundF 259 = true := by kernel_rfl
theorem fa_8_4 : roundF 260 = true := by kernel_rfl
theorem fa_8_5 : roundF 261 = true := by kernel_rfl
theorem fa_8_6 : roundF 262 = true := by kernel_rfl
theorem fa_8_7 : roundF 263 = true := by kernel_rfl
theorem fa_8_8 : roundF 264 = true := by kernel_rfl
theorem fa_8_9 : roundF 265 = true := by kernel_rfl
theorem fa_8_10 : roundF 266 = true := by kernel_rfl
theorem fa_8_11 : roundF 267 = true := by kernel_rfl
theorem fa_8_12 : roundF 268 = true := by kernel_rfl
theorem fa_8_13 : roundF 269 = true := by kernel_rfl
theorem fa_8_14 : roundF 270 = true := by kernel_rfl
theorem fa_8_15 : roundF 271 = true := by kernel_rfl

end Go.Proofs.YtfliaagohfoipaaGreat
