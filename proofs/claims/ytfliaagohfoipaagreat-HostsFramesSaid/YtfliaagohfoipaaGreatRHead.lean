/-
  What is proved here: plugboardlaw26.HostsFrames up to its loop.
  Conditions: none.
-/
import Derived.Test.YtfliaagohfoipaaGreatRDefs
namespace Go.Proofs.YtfliaagohfoipaaGreat
open Go.Sy Go.RowKit

set_option maxRecDepth 1000000

theorem fr_head : headR = true := by kernel_rfl
theorem fr_loop : place frPath frCode = .loop frLoop := by kernel_rfl
theorem fr_id : cId (place [.r, .r, .r, .r, .r, .r, .r, .r, .r, .r, .l, .r] frCode) = 0 := by kernel_rfl
theorem fr_slots : slots Tryz.f4.ntmps (paV frPa 0 0) = 137 := by kernel_rfl

end Go.Proofs.YtfliaagohfoipaaGreat
