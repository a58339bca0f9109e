/-
  What is defined here: the runs of plugboardlaw41.SerialsNotices: up to its loop, a round of it, what comes behind it.
  Conditions: none (definitions only).
-/
import Derived.Test.YtjbkbapndoacpaaNBase
namespace Go.Proofs.Ytjbkbapndoacpaa
open Go.Sy Go.RowKit

set_option maxRecDepth 1000000

noncomputable def noCode : Code := Try.f3.body.getD .skip
theorem no_body : Try.f3.body = some noCode := by kernel_rfl
def noPa : List Pa := [.arr [.int .u8, .int .u8]]
theorem no_pa : Try.f3.params.toList.mapM (paOf Try.prog) = some noPa := by kernel_rfl
noncomputable def cfN : FuncId → List V → M V := evFn Try.prog kwN 10 20
theorem cfN_ok (ρ : Nat → Int) : CallsOK Try.prog ρ cfN := evFn_ok plain (kwN_ok ρ) 10 20
def noPath : List Dir := [.r, .r, .r, .r, .r, .r, .l, .r, .b]
noncomputable def noRest : Code := cR (place [.r, .r, .r, .r, .r, .r] noCode)
noncomputable def noLoop : Code := cLoop (place noPath noCode)

noncomputable def nu8 (n : Nat) : V := .int .u8 (.n (.ofNat n))
noncomputable def nu16 (n : Nat) : V := .int .u16 (.n (.ofNat n))
noncomputable def nu32 (n : Nat) : V := .int .u32 (.n (.ofNat n))
noncomputable def ni64 (n : Nat) : V := .int .i64 (.n (.ofNat n))
noncomputable def bT : V := .bool (.lit true)
noncomputable def bF : V := .bool (.lit false)
noncomputable def isV (n : Nat) : V := .bool (.lit (Nat.beq n 1))
/-- q: nothing was offered yet (0), nothing waits (1), a notice waits (2) -/
noncomputable def queueV (q : Nat) : V := selB (Nat.beq q 0) .nilSlice (selB (Nat.beq q 1) (.eslice 4120 (some (1, 0, 1))) (.slice 4120 0 1 (.t 0 0)))
noncomputable def queueB (q : Nat) : List (Nat × Blk) := selB (Nat.beq q 0) [] (selB (Nat.beq q 1) [(4120, .cells [.bad] true true (some (0, 1)))]
  [(4120, .cells [.slice 4121 0 10 (.n 10)] true true (some (0, 1))), (4121, .cells [nu8 161, nu8 32, nu8 0, nu8 0, nu8 5, nu8 0, nu8 2, nu8 0, .int .u8 (.x 1), nu8 0] true true none), (4122, .cells [.int .u8 (.x 1)] true true (some (1, 1)))])
/-- t: ticks; g: the toggle; x0 the length, x1 told, x2 the state, x3 i -/
noncomputable def pnN (t g q : Nat) : Pn := ⟨1, 3, [(0, .sarr 4096 2 (.x 0)), (3, .ptr 4105 0), (5, .int .u8 (.x 1)), (6, .int .u8 (.x 2)), (7, selB (Nat.beq q 2) (.slice 4122 0 1 (.t 1 0)) .nilSlice), (8, .int .i64 (.x 3))],
  [(4096, .srow 0 [.int .u8, .int .u8] (.x 0)),
   (4105, .cells [.ptr 4103 0, .ptr 4104 0, bF, bF, isV g, ni64 64, bF] true true none),
   (4103, .cells [.nilSlice, .nilSlice, nu16 5, nu32 9600, nu8 0, nu8 0, nu8 8, nu8 0, .int .u8 (.x 2), .int .u8 (.x 1), ni64 0, ni64 t, .ptr 4098 0, .ptr 4100 0, .ptr 4102 0] true true none),
   (4104, .cells [bT, nu8 0, .map 4107, .nilIface, nu8 0, .nilPtr] true true none),
   (4098, .cells [.nilSlice, ni64 0, .nilSlice, nu8 1, bT, nu8 2, ni64 64, bF, bF] true true none),
   (4100, .cells [.nilSlice, ni64 0, .nilSlice, nu8 2, bF, nu8 2, ni64 64, bF, bF] true true none),
   (4102, .cells [queueV q, ni64 0, .nilSlice, nu8 3, bT, nu8 3, ni64 16, isV g, bF] true true none),
   (4107, .pm [(.agg [nu8 1, bT], .ptr 4098 0), (.agg [nu8 2, bF], .ptr 4100 0), (.agg [nu8 3, bT], .ptr 4102 0)] true)] ++ queueB q,
  4200, 2, selB (Nat.beq q 0) [] (selB (Nat.beq q 1) [(0, 1)] [(0, 1), (1, 1)]), [(0, 60), (0, 127), (0, 127), (0, 60)], []⟩
noncomputable def pnH (h : Nat) : Pn := pnN (h / 6) (h / 3 % 2) (h % 3)
noncomputable def natV (v : V) : Nat := onInt v (fun _ e => onN e Int.toNat 0) 0
noncomputable def cellV (m : Mem) (i k : Nat) : V := onCells (m.tr.get i) (fun l _ _ _ => (nth k l).getD .bad) .bad
noncomputable def boolN (v : V) : Nat := match v with | .bool (.lit b) => selB b 1 0 | _ => 0
noncomputable def queueN (v : V) : Nat := match v with | .nilSlice => 0 | .eslice _ _ => 1 | _ => 2
noncomputable def pickN (_ : Env) (m : Mem) : Nat := (natV (cellV m 4103 11) * 2 + boolN (cellV m 4105 4)) * 3 + queueN (cellV m 4102 0)
noncomputable def hdN : Hds := ⟨pnH, fun h => Nat.blt h 48, fun _ => 0, pickN⟩
noncomputable def pnX : Pn := ⟨1, 0, [], [], 4099, 0, [], [(0, 60)], []⟩
noncomputable def hdX : Hds := ⟨fun _ => pnX, fun _ => true, fun _ => 0, fun _ _ => 0⟩

noncomputable def headN : Bool := goodT (leafH hdN 2) (evHead Try.prog cfN 10 136 noPath noCode (setArgs (paV noPa 0 0) 0 env0) (mem1 [] noPa) ⟨[], paR noPa⟩)
noncomputable def roundN (h : Nat) : Bool := goodT (leafL hdN hdX (ltV (fun _ => 0) 3) 0 2 h) (evCode noLoop Try.prog cfN 10 136 (pnH h).env (pnH h).mem (pnH h).pc)
noncomputable def endN : Bool := goodT (leafR 2) (evCode noRest Try.prog cfN 10 136 pnX.env pnX.mem pnX.pc)

end Go.Proofs.Ytjbkbapndoacpaa
