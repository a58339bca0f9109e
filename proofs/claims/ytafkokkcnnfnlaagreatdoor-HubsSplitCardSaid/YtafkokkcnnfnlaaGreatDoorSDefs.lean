/-
  What is defined here: the runs of plugboardlaw18.HubsSplit: up to its loop, a round of it, what comes behind it.
  Conditions: none (definitions only).
-/
import Derived.Test.YtafkokkcnnfnlaaGreatDoorDBase
namespace Go.Proofs.YtafkokkcnnfnlaaGreatDoor
open Go.Sy Go.RowKit

set_option maxRecDepth 1000000

noncomputable def spCode : Code := Tryz.f4.body.getD .skip
theorem sp_body : Tryz.f4.body = some spCode := by kernel_rfl
def spPa : List Pa := [.leaf .bool, .arr [.int .u8, .int .u8]]
theorem sp_pa : Tryz.f4.params.toList.mapM (paOf Tryz.prog) = some spPa := by kernel_rfl
noncomputable def cfS : FuncId → List V → M V := evFn Tryz.prog kwD 10 30
theorem cfS_ok (ρ : Nat → Int) : CallsOK Tryz.prog ρ cfS := evFn_ok plain (kwD_ok ρ) 10 30
def spPath : List Dir := [.r, .r, .r, .r, .r, .r, .r, .r, .r, .r, .r, .r, .r, .l, .r, .b]
noncomputable def spRest : Code := cR (place [.r, .r, .r, .r, .r, .r, .r, .r, .r, .r, .r, .r, .r] spCode)
noncomputable def spLoop : Code := cLoop (place spPath spCode)

noncomputable def nu8 (n : Nat) : V := .int .u8 (.n (.ofNat n))
noncomputable def nu16 (n : Nat) : V := .int .u16 (.n (.ofNat n))
noncomputable def ni64 (n : Nat) : V := .int .i64 (.n (.ofNat n))
noncomputable def bT : V := .bool (.lit true)
noncomputable def bF : V := .bool (.lit false)
noncomputable def portV (n : V) (on : Bool) (ch : Nat) : List V := [n, .bool (.lit on), .bool (.lit on), bF, bF, bF, bF, ni64 0, nu16 ch]
noncomputable def offV : List V := portV .nilIface false 0
noncomputable def bads (n : Nat) : List V := Nat.rec [] (fun _ l => V.bad :: l) n
/-- the hub, its translator's ear, its node: b: is it the root? e: what is expected; c: how many packets the ear has heard; variables: x2 complete, x3 passed, x4 i, x5 quiet -/
noncomputable def hubB (b e : Nat) : Blk := .cells ([nu8 2, ni64 2, bT, .bad, nu16 0, nu16 0, .nilPtr, selB (Nat.beq b 1) .nilPtr (.ptr 4101 0)] ++ offV ++ portV (.iface 40 (.ptr 4099 0)) true 17 ++ offV ++ offV ++ offV ++ offV ++ offV ++ [selB (Nat.beq b 1) .nilPtr .bad, .iface 53 (.ptr 4098 0), nu8 e, .bool (.eq (.x 2) (.n 1))]) true true none
noncomputable def earL (c : Nat) : V := (Nat.rec (motive := fun _ => V) (.nilSlice) (fun k _ => .slice 4100 0 (Nat.succ k) (.t 0 0)) (c))
noncomputable def commonB (b e c : Nat) : List (Nat × Blk) := [(4096, .srow 0 [.int .u8, .int .u8] (.x 1)), (4097, hubB b e), (4098, .cells [earL c, ni64 16] true true none), (4099, .cells [nu8 2, ni64 50, bF, bF, bT, ni64 1, ni64 1, ni64 16, .int .i64 (.x 3)] true true none)]
noncomputable def earB (c : Nat) : List (Nat × Blk) := selB (Nat.beq c 0) [] [(4100, .cells (bads c) true true (some (0, 1)))]
noncomputable def devB (b : Nat) : List (Nat × Blk) := selB (Nat.beq b 1) [] [
  (4101, .cells [nu8 2, nu16 512, nu8 9, nu8 0, nu8 1, nu8 64, nu16 0, nu16 0, nu16 256, nu8 0, nu8 0, nu8 0, nu8 1, .bad, .nilSlice, bT, .iface 168 (.agg [.ptr 4097 0]), bT, bT, nu8 2, nu8 3, nu8 1, .slice 4103 0 1 (.n 1), .nilSlice, bF, .nilPtr, .ptr 4104 0, .ptr 4105 0, ni64 2, .slice 4106 0 1 (.t 1 0), bT, .int .i64 (.x 5)] true true none),
  (4102, .cells [.bad, ni64 0, .nilSlice, nu8 1, bT, nu8 3, ni64 1, bF, bF] true true none),
  (4103, .cells [nu8 0] true true none),
  (4104, .cells [bT, nu8 3, .bad, .iface 192 (.ptr 4105 0), nu8 0, .nilPtr] true true none),
  (4105, .cells [ni64 64, .iface 221 (.func (.func 118) [.ptr 4101 0] []), nu8 0, .bad, .bad, .bad, .bad, .bad, .bad, .bad, .bad, .bad, .bad, .bad, .bad, ni64 2] true true none),
  (4106, .cells [.ptr 4102 0] true true none)]
noncomputable def pnS (b e c : Nat) : Pn := ⟨2, 4, [(0, .bool (.eq (.x 0) (.n 1))), (1, .sarr 4096 2 (.x 1)), (5, .ptr 4097 0), (6, selB (Nat.beq b 1) (nu8 0) (nu8 3)), (7, .ptr 4098 0), (8, .ptr 4099 0), (10, ni64 e), (11, .bool (.eq (.x 2) (.n 1))), (12, ni64 c), (13, .int .i64 (.x 3)), (14, .int .i64 (.x 4))],
  commonB b e c ++ earB c ++ devB b, 4107, 2, selB (Nat.beq c 0) [] [(0, c)] ++ selB (Nat.beq b 1) [] [(1, 1)], [(.ofNat b, .ofNat b), (0, 30), (0, 1), (0, 30), (0, 30), (0, 16)], [(.lt (.x 4) (.x 3), false), (.lt (.x 4) (.n (.ofNat c)), false)]⟩
noncomputable def pnH (h : Nat) : Pn := pnS (h / 124) (h / 31 % 4) (h % 31)
noncomputable def natV (v : V) : Nat := onInt v (fun _ e => onN e Int.toNat 0) 0
noncomputable def pickS (env : Env) (_ : Mem) : Nat := (selB (Nat.beq (natV (env 6)) 0) 1 0 * 4 + natV (env 10)) * 31 + natV (env 12)
noncomputable def hdS : Hds := ⟨pnH, fun h => Nat.blt h 248, fun _ => 0, pickS⟩
noncomputable def pnX : Pn := ⟨2, 0, [(7, .ptr 4098 0)], [(4098, .cells [.bad, ni64 16] true true none)], 4099, 0, [], [(0, 1), (0, 30)], []⟩
noncomputable def hdX : Hds := ⟨fun _ => pnX, fun _ => true, fun _ => 0, fun _ _ => 0⟩

/-- the start, by whether it is the root -/
noncomputable def spQ (b : Nat) : Pc := ⟨[], [(.ofNat b, .ofNat b), (0, 9223372036854775807)]⟩
noncomputable def headS (q : Pc) : Bool := goodT (leafH hdS 4) (evHead Tryz.prog cfS 10 248 spPath spCode (setArgs (paV spPa 0 0) 0 env0) (mem1 [] spPa) q)
noncomputable def roundS (h : Nat) : Bool := goodT (leafL hdS hdX (ltV (fun _ => 0) 4) 2 4 h) (evCode spLoop Tryz.prog cfS 10 248 (pnH h).env (pnH h).mem (pnH h).pc)
noncomputable def endS : Bool := goodT (leafR 4) (evCode spRest Tryz.prog cfS 10 248 pnX.env pnX.mem pnX.pc)

end Go.Proofs.YtafkokkcnnfnlaaGreatDoor
