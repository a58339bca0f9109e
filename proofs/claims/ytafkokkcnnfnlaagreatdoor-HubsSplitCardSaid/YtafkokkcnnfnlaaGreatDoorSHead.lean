/-
  What is proved here: plugboardlaw18.HubsSplit up to its loop, and what comes behind it.
  Conditions: none.
-/
import Derived.Test.YtafkokkcnnfnlaaGreatDoorSDefs
namespace Go.Proofs.YtafkokkcnnfnlaaGreatDoor
open Go.Sy Go.RowKit

set_option maxRecDepth 1000000

theorem sp_head0 : headS (spQ 0) = true := by kernel_rfl
theorem sp_head1 : headS (spQ 1) = true := by kernel_rfl
theorem sp_end : endS = true := by kernel_rfl
theorem sp_loop : place spPath spCode = .loop spLoop := by kernel_rfl
theorem sp_id : cId (place [.r, .r, .r, .r, .r, .r, .r, .r, .r, .r, .r, .r, .r, .l, .r] spCode) = 2 := by kernel_rfl
theorem sp_slots : slots Tryz.f4.ntmps (paV spPa 0 0) = 248 := by kernel_rfl

end Go.Proofs.YtafkokkcnnfnlaaGreatDoor
