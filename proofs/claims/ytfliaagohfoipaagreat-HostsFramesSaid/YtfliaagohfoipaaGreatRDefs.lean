/-
  What is defined here: the runs of plugboardlaw26.HostsFrames: up to its loop, its rounds, what comes behind it.
  Conditions: none (definitions only).
-/
import Derived.Test.YtfliaagohfoipaaGreatHBase
namespace Go.Proofs.YtfliaagohfoipaaGreat
open Go.Sy Go.RowKit

set_option maxRecDepth 1000000

noncomputable def frCode : Code := Tryz.f4.body.getD .skip
theorem fr_body : Tryz.f4.body = some frCode := by kernel_rfl
def frPa : List Pa := [.leaf (.int .u8), .leaf (.int .u8), .leaf (.int .u8)]
theorem fr_pa : Tryz.f4.params.toList.mapM (paOf Tryz.prog) = some frPa := by kernel_rfl
def frPath : List Dir := [.r, .r, .r, .r, .r, .r, .r, .r, .r, .r, .l, .r, .b]
noncomputable def frRest : Code := cR (place [.r, .r, .r, .r, .r, .r, .r, .r, .r, .r] frCode)
noncomputable def frLoop : Code := cLoop (place frPath frCode)

/-- the number of ticks -/
noncomputable def frN : E := .bin .add .i64 (.bin .mul .u64 (.bin .rem .u8 (.x 1) (.n 5)) (.n 64)) (.x 0)
noncomputable def frTry : List V := [nu8 9, nu8 1, nu8 9, bF, bF, ni64 64, .nilSlice]
/-- the source; c: is the pipe closed? -/
noncomputable def frSrc (t c : Nat) : List V := frTry ++ ((List.range 31).flatMap fun _ => [nu8 0, nu8 0, nu8 0, bF, bF, ni64 0, .nilSlice]) ++ (V.int .i64 (.n (-1)) :: reps 31 (ni64 0)) ++ (selB (Nat.beq c 0) (ni64 t) .bad :: reps 31 (ni64 0)) ++ [ni64 0] ++ reps 32 bF ++ (.bad :: reps 31 (nu8 0))
noncomputable def framesV (t : Nat) : V := selB (Nat.beq t 0) .nilSlice (.slice 4101 0 t (.t 0 0))
noncomputable def framesB (t : Nat) : List (Nat × Blk) := selB (Nat.beq t 0) [] [(4101, .cells ((List.range t).map fun j => nu16 (j / 8)) true true (some (0, 1)))]
noncomputable def framesT (t : Nat) : List (Nat × Nat) := selB (Nat.beq t 0) [] [(0, t)]
/-- behind t ticks -/
noncomputable def pnR (t c : Nat) : Pn := ⟨3, 0, [(0, .int .u8 (.x 0)), (1, .int .u8 (.x 1)), (2, .int .u8 (.x 2)), (7, .ptr 4096 0), (8, .ptr 4097 0), (9, .ptr 4100 0), (12, .int .i64 frN), (13, ni64 t)],
  [(4096, .cells [framesV t] true true none), (4097, .cells (frSrc t c) true true none),
   (4100, .cells [.iface 48 (.ptr 4096 0), .nilIface, .iface 28 (.ptr 4097 0), .map 4098, .map 4099, .nilSlice, selB (Nat.beq c 0) (.slice 4102 0 1 (.n 1)) .nilSlice, ni64 t, .bad, .bad, .nilSlice] true true none),
   (4098, .map (selB (Nat.beq c 0) [(ni64 0, .agg [nu8 9, nu8 1, bT, nu8 2, ni64 64, ni64 0, nu8 1, nu8 0, nu8 2, bF, bF], 0)] []) 1 true), (4099, .map [] 0 true)]
  ++ framesB t ++ selB (Nat.beq c 0) [(4102, .cells [ni64 0] true true (some (1, 1)))] [], 4200, 2, framesT t ++ selB (Nat.beq c 0) [(1, 1)] [],
  [(0, 255), (0, 255), selB (Nat.beq c 0) (.ofNat t, 255) (0, .ofNat (selB (Nat.blt 255 (t - 1)) 255 (t - 1)))], selB (Nat.beq t 0) [] [(.lt (.n (.ofNat (t - 1))) frN, true)]⟩
noncomputable def isNilS (v : V) : Nat := match v with | .nilSlice => 1 | _ => 0
noncomputable def pnRH (h : Nat) : Pn := pnR (h / 2) (h % 2)
noncomputable def pickR (env : Env) (m : Mem) : Nat := natV (env 13) * 2 + isNilS (cellV m 4100 6)
noncomputable def muR (h : Nat) : Nat := 600 - h / 2
noncomputable def okR (h : Nat) : Bool := selB (Nat.beq (h % 2) 0) (Nat.blt h 512) (andB (Nat.blt 1 h) (Nat.blt h 1024))
noncomputable def hdR : Hds := ⟨pnRH, okR, muR, pickR⟩
/-- behind the loop: t ticks have passed -/
noncomputable def pnE (t : Nat) : Pn := ⟨3, 0, [(7, .ptr 4096 0), (8, .ptr 4097 0), (9, .ptr 4100 0), (12, .int .i64 frN)],
  [(4096, .cells [framesV t] true true none), (4097, .cells (reps 288 .bad ++ [ni64 0]) true true none),
   (4100, .cells [.bad, .bad, .bad, .map 4098, .bad, .bad, .bad, ni64 t] true true none)] ++ framesB t, 4200, 1, framesT t, [(0, 255), (0, 255), (0, 255)], (.lt (.n (.ofNat t)) frN, false) :: selB (Nat.beq t 0) [] [(.lt (.n (.ofNat (t - 1))) frN, true)]⟩
noncomputable def pickE (_ : Env) (m : Mem) : Nat := natV (cellV m 4100 7)
noncomputable def hdE : Hds := ⟨pnE, fun t => Nat.blt t 512, fun _ => 0, pickE⟩
noncomputable def ltR (h h' : Nat) (_ : Ren) : Bool := Nat.blt (muR h') (muR h)

noncomputable def headR : Bool := goodT (leafH hdR 6) (evHead Tryz.prog cfH 14 137 frPath frCode (setArgs (paV frPa 0 0) 0 env0) (mem1 [] frPa) ⟨[], paR frPa⟩)
noncomputable def roundR (h : Nat) : Bool := goodT (leafL hdR hdE ltR 0 6 h) (evCode frLoop Tryz.prog cfH 14 137 (pnRH h).env (pnRH h).mem (pnRH h).pc)
noncomputable def closedR (i : Nat) : Bool := orB (Nat.ble 511 i) (roundR (2 * i + 3))
noncomputable def endR (t : Nat) : Bool := goodT (leafR 6) (evCode frRest Tryz.prog cfH 600 137 (pnE t).env (pnE t).mem (pnE t).pc)

end Go.Proofs.YtfliaagohfoipaaGreat
