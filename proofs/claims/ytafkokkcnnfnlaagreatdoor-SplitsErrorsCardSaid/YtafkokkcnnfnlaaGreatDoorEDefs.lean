/-
  What is defined here: the runs of plugboardlaw22.SplitsErrors: up to the first hub, and from there on.
  Conditions: none (definitions only).
-/
import Derived.Test.YtafkokkcnnfnlaaGreatDoorDBase
namespace Go.Proofs.YtafkokkcnnfnlaaGreatDoor
open Go.Sy Go.RowKit

set_option maxRecDepth 1000000

noncomputable def errCode : Code := Tryz.f5.body.getD .skip
theorem err_body : Tryz.f5.body = some errCode := by kernel_rfl
def errPa : List Pa := [.mix [.leaf (.int .u8), .leaf (.int .u8), .leaf .bool, .leaf (.int .u8), .leaf (.int .u8), .leaf (.int .u8), .leaf (.int .u8), .leaf .bool, .leaf .bool, .leaf (.int .i64), .sl [.int .u8]], .leaf (.int .u8)]
theorem err_pa : Tryz.f5.params.toList.mapM (paOf Tryz.prog) = some errPa := by kernel_rfl
def errPath : List Dir := [.r, .r, .r, .r, .r, .r, .r]
noncomputable def errRest : Code := place errPath errCode
noncomputable def pnE : Pn := ⟨0, 1, [(1, .int .u8 (.x 0))], [], 4096, 0, [], [(0, 255)], []⟩
noncomputable def hdE : Hds := ⟨fun _ => pnE, fun _ => true, fun _ => 0, fun _ _ => 0⟩
/-- what is no Out; Out with more than 40 bytes; Out with n bytes -/
noncomputable def errNo : Pc := ⟨[(.eq (.x 6) (.n 1), false)], paR errPa⟩
noncomputable def errMany : Pc := ⟨[], setRng (setRng (paR errPa) 6 fun _ => (1, 1)) 10 fun _ => (41, 9223372036854775807)⟩
noncomputable def errOut (n : Nat) : Pc := ⟨[], setRng (setRng (paR errPa) 6 fun _ => (1, 1)) 10 fun _ => (.ofNat n, .ofNat n)⟩
noncomputable def headE (q : Pc) : Bool := goodT (leafH hdE 4) (evHead Tryz.prog cfD 10 229 errPath errCode (setArgs (paV errPa 0 0) 0 env0) (mem1 [] errPa) q)
noncomputable def endE : Bool := goodT (leafR 4) (evCode errRest Tryz.prog cfD 10 229 pnE.env pnE.mem pnE.pc)
noncomputable def errQs : List Pc := errNo :: errMany :: (List.range 41).map errOut

end Go.Proofs.YtafkokkcnnfnlaaGreatDoor
