/-
  What is defined here: the runs of plugboardlaw22.SplitsHost: up to its loop, a round of it, what comes behind it.
  Conditions: none (definitions only).
-/
import Derived.Test.YtafkokkcnnfnlaaGreatHBase
namespace Go.Proofs.YtafkokkcnnfnlaaGreat
open Go.Sy Go.RowKit

set_option maxRecDepth 1000000

noncomputable def hostCode : Code := Tryz.f3.body.getD .skip
theorem host_body : Tryz.f3.body = some hostCode := by kernel_rfl
def hostPa : List Pa := [.leaf (.int .u8), .leaf .bool, .arr [.int .u8, .int .u8]]
theorem host_pa : Tryz.f3.params.toList.mapM (paOf Tryz.prog) = some hostPa := by kernel_rfl

noncomputable def z8 (n : Nat) : V := .int .u8 (.n (.ofNat n))
noncomputable def z64 (n : Nat) : V := .int .i64 (.n (.ofNat n))
noncomputable def isPer (k : Nat) : Bool := Nat.beq (k % 2) 1
/-- the State, by kind k, direction b, stage s; variables: x3 at, x4 tries, x5 State.Tries, x6 tick, x7 the result where it is over -/
noncomputable def stB (k b s : Nat) : Blk := .cells [z8 3, z8 7, .bool (.lit false), z8 k, z8 1, z8 1, z8 (selB (Nat.beq b 1) 9 1), .bool (.lit false), .bool (.lit (Nat.beq k 1)), z64 (selB (Nat.beq b 1) 8 0), .nilSlice,
  z8 s, .int .i64 (.x 3), .int .i64 (selB (orB (isPer k) (Nat.beq s 2)) (.x 5) (.x 4)), selB (Nat.beq s 2) (.int .u8 (.x 7)) (z8 0), .nilSlice] true true none
/-- the loop's state in round n -/
noncomputable def pnS (k b s n : Nat) : Pn := ⟨3, 5, [(1, .bool (.eq (.x 1) (.n 1))), (2, .sarr 4096 2 (.x 2)), (7, z8 k), (9, .ptr 4097 0), (11, .bool (.lit (isPer k))), (12, z64 s), (13, .int .i64 (.x 3)), (14, .int .i64 (.x 4)), (15, .int .i64 (.x 6)), (16, .ptr 4098 0), (17, z64 n)],
  [(4096, .srow 0 [.int .u8, .int .u8] (.x 2)), (4097, stB k b s), (4098, .cells [selB (Nat.beq s 2) (.int .u8 (.x 7)) (z8 0), .nilSlice] true true none)], 4099, 0, [],
  [(0, 255), (.ofNat b, .ofNat b), (0, 40), (0, 120), (0, selB (Nat.beq s 2) 41 (selB (isPer k) (.ofNat n) 2)), (0, 3), (0, .ofNat (3 * n)), (0, 7)], []⟩
noncomputable def pnH (h : Nat) : Pn := pnS (h / 246) (h / 123 % 2) (h / 41 % 3) (h % 41)
noncomputable def natV (v : V) : Nat := onInt v (fun _ e => onN e Int.toNat 0) 0
noncomputable def whatS (env : Env) (m : Mem) : Nat := onPtr (env 9) (fun i _ => onCells (m.tr.get i) (fun l _ _ _ => selB (Nat.beq (natV (l.getD 6 .bad)) 9) 1 0) 0) 0
noncomputable def pickS (env : Env) (m : Mem) : Nat := ((natV (env 7) * 2 + whatS env m) * 3 + natV (env 12)) * 41 + natV (env 17)
noncomputable def hdS : Hds := ⟨pnH, fun h => Nat.blt h 984, fun h => 40 - h % 41, pickS⟩
noncomputable def pnX : Pn := ⟨3, 0, [], [], 4096, 0, [], [(0, 255), (0, 1), (0, 40)], []⟩
noncomputable def hdX : Hds := ⟨fun _ => pnX, fun _ => true, fun _ => 0, fun _ _ => 0⟩

def hostPath : List Dir := [.r, .r, .r, .r, .r, .r, .r, .r, .r, .r, .l, .r, .b]
noncomputable def hostRest : Code := cR (place [.r, .r, .r, .r, .r, .r, .r, .r, .r, .r] hostCode)
noncomputable def hostLoop : Code := cLoop (place hostPath hostCode)

/-- the start, by the kind's byte and the direction -/
noncomputable def hostQ (v b : Nat) : Pc := ⟨[], [(.ofNat v, .ofNat v), (.ofNat b, .ofNat b), (0, 9223372036854775807)]⟩
noncomputable def hostQs : List Pc := (List.range 256).flatMap fun v => [hostQ v 0, hostQ v 1]
noncomputable def headS (q : Pc) : Bool := goodT (leafH hdS 6) (evHead Tryz.prog cfL 10 258 hostPath hostCode (setArgs (paV hostPa 0 0) 0 env0) (mem1 [] hostPa) q)
noncomputable def roundS (h : Nat) : Bool := goodT (leafL hdS hdX (fun h h' _ => Nat.blt (40 - h' % 41) (40 - h % 41)) 0 6 h) (evCode hostLoop Tryz.prog cfL 10 258 (pnH h).env (pnH h).mem (pnH h).pc)
noncomputable def endS : Bool := goodT (leafR 6) (evCode hostRest Tryz.prog cfL 10 258 pnX.env pnX.mem pnX.pc)

end Go.Proofs.YtafkokkcnnfnlaaGreat
