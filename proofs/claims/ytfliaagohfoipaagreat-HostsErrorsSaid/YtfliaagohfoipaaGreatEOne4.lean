/-
  What is proved here: plugboardlaw26.HostsErrors up to its loop, for isochronous pipes, by their periods.
  Conditions: none.
-/
import Derived.Test.YtfliaagohfoipaaGreatEDefs
namespace Go.Proofs.YtfliaagohfoipaaGreat
open Go.Sy Go.RowKit

set_option maxRecDepth 1000000

/-- all but the period 256 -/
noncomputable def headO (v : Nat) : Bool := orB (Nat.beq v 255) (headV 1 v)
theorem EOne_27 : ((List.range 8).all fun k => headV 1 (216 + k)) = true := by kernel_rfl
theorem EOne_28 : ((List.range 8).all fun k => headV 1 (224 + k)) = true := by kernel_rfl
theorem EOne_29 : ((List.range 8).all fun k => headV 1 (232 + k)) = true := by kernel_rfl
theorem EOne_30 : ((List.range 8).all fun k => headV 1 (240 + k)) = true := by kernel_rfl
theorem EOne_31 : ((List.range 8).all fun k => headO (248 + k)) = true := by kernel_rfl

end Go.Proofs.YtfliaagohfoipaaGreat
