/-
  What is proved here: the rounds 0 to 15 of plugboardlaw26.HostsFair with 10 pipes are good.
  Conditions: none.
-/
import Derived.Test.YtfliaagohfoipaaGreatFDefs
namespace Go.Proofs.YtfliaagohfoipaaGreat
open Go.Sy Go.RowKit

set_option maxRecDepth 1000000

theorem fa_9_0 : roundF 288 = true := by kernel_rfl
theorem fa_9_1 : roundF 289 = true := by kernel_rfl
theorem fa_9_2 : roundF 290 = true := by kernel_rfl
theorem fa_9_3 : roundF 291 = true := by kernel_rfl
theorem fa_9_4 : roundF 292 = true := by kernel_rfl
theorem fa_9_5 : roundF 293 = true := by kernel_rfl
theorem fa_9_6 : roundF 294 = true := by kernel_rfl
theorem fa_9_7 : roundF 295 = true := by kernel_rfl
theorem fa_9_8 : roundF 296 = true := by kernel_rfl
theorem fa_9_9 : roundF 297 = true := by kernel_rfl
theorem fa_9_10 : roundF 298 = true := by kernel_rfl
theorem fa_9_11 : roundF 299 = true := by kernel_rfl
theorem fa_9_12 : roundF 300 = true := by kernel_rfl
theorem fa_9_13 : roundF 301 = true := by kernel_rfl
theorem fa_9_14 : roundF 302 = true := by kernel_rfl
theorem fa_9_15 : roundF 303 = true := by kernel_rfl

end Go.Proofs.YtfliaagohfoipaaGreat
