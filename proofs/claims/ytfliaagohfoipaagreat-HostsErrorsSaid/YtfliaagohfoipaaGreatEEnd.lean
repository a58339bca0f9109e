/-
  What is proved here: plugboardlaw26.HostsErrors up to its loop, for other pipes; what comes behind the loop.
  Conditions: none.
-/
import Derived.Test.YtfliaagohfoipaaGreatEDefs
namespace Go.Proofs.YtfliaagohfoipaaGreat
open Go.Sy Go.RowKit

set_option maxRecDepth 1000000

theorem er_h0 : headM [(3, 0, 0)] = true := by kernel_rfl
theorem er_h2 : headM [(3, 2, 2)] = true := by kernel_rfl
theorem er_h4 : headM [(3, 4, 255)] = true := by kernel_rfl
theorem er_h1a : headM [(3, 1, 1), (5, -9223372036854775808, 0)] = true := by kernel_rfl
theorem er_h1b : headM [(3, 1, 1), (5, 257, 9223372036854775807)] = true := by kernel_rfl
theorem er_h3a : headM [(3, 3, 3), (5, -9223372036854775808, 0)] = true := by kernel_rfl
theorem er_h3b : headM [(3, 3, 3), (5, 257, 9223372036854775807)] = true := by kernel_rfl
theorem er_e0 : endM 512 = true := by kernel_rfl
theorem er_e1 : endM 513 = true := by kernel_rfl
theorem er_loop : place erPath erCode = .loop erLoop := by kernel_rfl
theorem er_id : cId (place [.r, .r, .r, .r, .r, .r, .r, .r, .r, .l] erCode) = 0 := by kernel_rfl
theorem er_slots : slots Tryz.f5.ntmps (paV erPa 0 0) = 193 := by kernel_rfl

end Go.Proofs.YtfliaagohfoipaaGreat
