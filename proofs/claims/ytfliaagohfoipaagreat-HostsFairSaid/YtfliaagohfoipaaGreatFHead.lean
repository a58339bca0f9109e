/-
  What is proved here: plugboardlaw26.HostsFair up to its loop, and what comes behind it.
  Conditions: none.
-/
import Derived.Test.YtfliaagohfoipaaGreatFDefs
namespace Go.Proofs.YtfliaagohfoipaaGreat
open Go.Sy Go.RowKit

set_option maxRecDepth 1000000

theorem fa_head1 : headF (faQ 1) = true := by kernel_rfl
theorem fa_head2 : headF (faQ 2) = true := by kernel_rfl
theorem fa_head3 : headF (faQ 3) = true := by kernel_rfl
theorem fa_head4 : headF (faQ 4) = true := by kernel_rfl
theorem fa_head5 : headF (faQ 5) = true := by kernel_rfl
theorem fa_head6 : headF (faQ 6) = true := by kernel_rfl
theorem fa_head7 : headF (faQ 7) = true := by kernel_rfl
theorem fa_head8 : headF (faQ 8) = true := by kernel_rfl
theorem fa_head9 : headF (faQ 9) = true := by kernel_rfl
theorem fa_head10 : headF (faQ 10) = true := by kernel_rfl
theorem fa_head11 : headF (faQ 11) = true := by kernel_rfl
theorem fa_head12 : headF (faQ 12) = true := by kernel_rfl
theorem fa_end : endF = true := by kernel_rfl
theorem fa_loop : place faPath faCode = .loop faLoop := by kernel_rfl
theorem fa_id : cId (place [.r, .r, .r, .r, .r, .r, .l, .r] faCode) = 0 := by kernel_rfl
theorem fa_slots : slots Tryz.f3.ntmps (paV faPa 0 0) = 90 := by kernel_rfl

end Go.Proofs.YtfliaagohfoipaaGreat
