/-
  What is defined here: the runs of plugboardlaw26.HostsFair: up to its loop, its rounds, what comes behind it.
  Conditions: none (definitions only).
-/
import Derived.Test.YtfliaagohfoipaaGreatHBase
namespace Go.Proofs.YtfliaagohfoipaaGreat
open Go.Sy Go.RowKit

set_option maxRecDepth 1000000

noncomputable def faCode : Code := Tryz.f3.body.getD .skip
theorem fa_body : Tryz.f3.body = some faCode := by kernel_rfl
def faPa : List Pa := [.leaf (.int .u8), .leaf (.int .u8)]
theorem fa_pa : Tryz.f3.params.toList.mapM (paOf Tryz.prog) = some faPa := by kernel_rfl
def faPath : List Dir := [.r, .r, .r, .r, .r, .r, .l, .r, .b]
noncomputable def faRest : Code := cR (place [.r, .r, .r, .r, .r, .r] faCode)
noncomputable def faLoop : Code := cLoop (place faPath faCode)
/-- n pipes -/
noncomputable def faQ (n : Nat) : Pc := ⟨[(.eq (.bin .rem .u8 (.x 0) (.n 12)) (.n (.ofNat (n - 1))), true)], [(0, 255), (0, 255)]⟩

/-- the pipe's own transaction -/
noncomputable def tryV (n i : Nat) : List V := selB (Nat.blt i n) [nu8 (40 + i), nu8 1, nu8 1, bF, bF, ni64 0, .slice (4110 + i) 0 512 (.n 512)] [nu8 0, nu8 0, nu8 0, bF, bF, ni64 0, .nilSlice]
/-- how often the i-th of n pipes was told within t ticks -/
noncomputable def toldN (n t i : Nat) : Nat := selB (Nat.blt i n) ((12 * t + (n - 1) - i) / n) 0
noncomputable def srcB (n t : Nat) : List V := (List.range 32).flatMap (tryV n) ++ ((List.range 32).map fun i => selB (Nat.blt i n) (V.int .i64 (.n (-1))) (ni64 0)) ++ ((List.range 32).map fun i => ni64 (toldN n t i)) ++ [ni64 0]
  ++ ((List.range 32).map fun i => V.bool (.lit (andB (Nat.blt 0 t) (Nat.beq i (12 * t % n))))) ++ (List.range 32).map fun i => nu8 (selB (Nat.blt 0 (toldN n t i)) 1 0)
noncomputable def leafB : List V := nu8 2 :: reps 128 (nu8 0) ++ reps 129 bF ++ [.bad, bF]
noncomputable def pipeV (i : Nat) : V × V := (ni64 i, .agg [nu8 (40 + i), nu8 1, bF, nu8 2, ni64 512, ni64 0, nu8 2, nu8 0, nu8 0, bF, bF])
/-- behind t ticks -/
noncomputable def pnF (n t : Nat) : Pn := ⟨2, 0, [(0, .int .u8 (.x 0)), (1, .int .u8 (.x 1)), (5, .ptr 4096 0), (6, .ptr 4097 0), (7, .ptr 4100 0), (9, .int .i64 (.bin .add .i64 (.n 1) (.bin .rem .u8 (.x 0) (.n 12)))), (10, ni64 t)],
  [(4096, .cells leafB true true none), (4097, .cells (srcB n t) true true none),
   (4100, .cells [.iface 22 (.ptr 4096 0), .nilIface, .iface 28 (.ptr 4097 0), .map 4098, .map 4099, .nilSlice, .slice 4101 0 n (.n n), ni64 t, .bad, .bad, selB (Nat.beq t 0) .nilSlice (.slice 4102 0 (12 * t) (.t 1 0))] true true none),
   (4098, .pm ((List.range n).map pipeV) true), (4099, .pm [] true),
   (4101, .cells ((List.range n).map fun i => ni64 ((12 * t + i) % n)) true true (some (0, 1)))]
  ++ (List.range n).map (fun i => (4110 + i, .cells (reps 512 (nu8 0)) true true none))
  ++ selB (Nat.beq t 0) [] [(4102, .cells (reps (132 * t) .bad) true true (some (1, 11)))], 4200, 2, (0, n) :: selB (Nat.beq t 0) [] [(1, 12 * t)], [(0, 255), (0, 255)], (faQ n).cs⟩
noncomputable def pnH (h : Nat) : Pn := pnF (h / 32 + 1) (h % 32)
noncomputable def pickF (env : Env) (m : Mem) : Nat := (lenSl (cellV m 4100 6) - 1) * 32 + natV (env 10)
noncomputable def muF (h : Nat) : Nat := 31 - h % 32
noncomputable def hdF : Hds := ⟨pnH, fun h => andB (Nat.blt h 384) (Nat.blt (h % 32) 31), muF, pickF⟩
noncomputable def pnX : Pn := ⟨2, 0, [], [], 4096, 0, [], [(0, 255), (0, 255)], []⟩
noncomputable def hdX : Hds := ⟨fun _ => pnX, fun _ => true, fun _ => 0, fun _ _ => 0⟩
noncomputable def ltF (h h' : Nat) (_ : Ren) : Bool := Nat.blt (muF h') (muF h)

noncomputable def headF (q : Pc) : Bool := goodT (leafH hdF 4) (evHead Tryz.prog cfH 14 90 faPath faCode (setArgs (paV faPa 0 0) 0 env0) (mem1 [] faPa) q)
noncomputable def roundF (h : Nat) : Bool := goodT (leafL hdF hdX ltF 0 4 h) (evCode faLoop Tryz.prog cfH 40 90 (pnH h).env (pnH h).mem (pnH h).pc)
noncomputable def endF : Bool := goodT (leafR 4) (evCode faRest Tryz.prog cfH 14 90 pnX.env pnX.mem pnX.pc)

end Go.Proofs.YtfliaagohfoipaaGreat
