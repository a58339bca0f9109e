/-
  What is defined here: the runs of plugboardlaw23.PipesNone, by parts of the kind, the speed, the direction and the period.
  Conditions: none (definitions only).
-/
import Derived.Test.YtfliaagohfoipaaGreatDoorPBase
namespace Go.Proofs.YtfliaagohfoipaaGreatDoor
open Go.Sy Go.RowKit

set_option maxRecDepth 1000000

def noPa : List Pa := [.agg [.int .u8, .int .u8, .bool, .int .u16, .int .u8, .int .u8, .int .u8, .int .u8], .mix [.leaf (.int .u8), .sl [.int .u8]]]
/-- the variable i, divided by n, leaves the rest a -/
def remF (i n a : Nat) : B × Bool := (.eq (.bin .rem .u8 (.x i) (.n (.ofNat n))) (.n (.ofNat a)), true)
/-- kind a, speed b, direction d, and the rest of the period by 9 (j; 9: any) -/
noncomputable def noQ (a b d j : Nat) : Pc := ⟨remF 0 4 a :: remF 1 3 b :: selB (Nat.blt j 9) [remF 4 9 j] [], setRng (paR noPa) 2 fun _ => (.ofNat d, .ofNat d)⟩
noncomputable def noRun (a b d j : Nat) : Bool := allTrue (evFn Tryz.prog kwP 10 20 3 (paV noPa 0 0) (mem1 pG noPa) (noQ a b d j))

end Go.Proofs.YtfliaagohfoipaaGreatDoor
