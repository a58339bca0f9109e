/-
  What is proved here: the rounds 16 to 30 of plugboardlaw26.HostsFair with 10 pipes are good.
  Conditions: none.
-/
import Derived.Test.YtfliaagohfoipaaGreatFDefs
namespace Go.Proofs.YtfliaagohfoipaaGreat
open Go.Sy Go.RowKit

set_option maxRecDepth 1000000

theorem fa_9_16 : roundF 304 = true := by kernel_rfl
theorem fa_9_17 : roundF 305 = true := by kernel_rfl
theorem fa_9_18 : roundF 306 = true := by kernel_rfl
theorem fa_9_19 : roundF 307 = true := by kernel_rfl
theorem fa_9_20 : roundF 308 = true := by kernel_rfl
theorem fa_9_21 : roundF 309 = true := by kernel_rfl
theorem fa_9_22 : roundF 310 = true := by kernel_rfl
theorem fa_9_23 : roundF 311 = true := by kernel_rfl
theorem fa_9_24 : roundF 312 = true := by kernel_rfl
theorem fa_9_25 : roundF 313 = true := by kernel_rfl
theorem fa_9_26 : roundF 314 = true := by kernel_rfl
theorem fa_9_27 : roundF 315 = true := by kernel_rfl
theorem fa_9_28 : roundF 316 = true := by kernel_rfl
theorem fa_9_29 : roundF 317 = true := by kernel_rfl
theorem fa_9_30 : roundF 318 = true := by kernel_rfl

end Go.Proofs.YtfliaagohfoipaaGreat
