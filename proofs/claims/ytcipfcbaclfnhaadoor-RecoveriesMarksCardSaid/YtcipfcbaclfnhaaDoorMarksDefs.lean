/-
  What is defined here: the runs of plugboardlaw29.RecoveriesMarks: up to its first loop, a round of it, up to the second one, a round of it, what comes behind it.
  Conditions: none (definitions only).
-/
import Derived.Test.YtcipfcbaclfnhaaDoorMBase
namespace Go.Proofs.YtcipfcbaclfnhaaDoor
open Go.Sy Go.RowKit

set_option maxRecDepth 1000000

noncomputable def marksCode : Code := Tryd.f5.body.getD .skip
theorem marks_body : Tryd.f5.body = some marksCode := by kernel_rfl
def marksPa : List Pa := [.arr [.int .u8]]
theorem marks_pa : Tryd.f5.params.toList.mapM (paOf Tryd.prog) = some marksPa := by kernel_rfl
noncomputable def cfM : FuncId → List V → M V := evFn Tryd.prog kw 10 20
theorem cfM_ok (ρ : Nat → Int) : CallsOK Tryd.prog ρ cfM := evFn_ok plain (kw_ok ρ) 10 20

/-- is there an endpoint with that mark? -/
noncomputable def isPl (j : Nat) : Bool := notB (orB (Nat.beq j 0) (Nat.beq j 16))
/-- the marks from n on, as bits: of mark j the variable 1 + j -/
noncomputable def bitsFrom (n : Nat) : List Bt := (List.range 32).map fun j => selB (andB (isPl j) (Nat.ble n j)) (.f (.x (1 + j)) 0 1) (.z 1)
noncomputable def marksRng (n b : Nat) : List (Int × Int) := (0, 10) :: ((List.range 32).map fun j => selB (isPl j) (selB (Nat.beq (Nat.succ j) n) ((.ofNat b : Int), (.ofNat b : Int)) (0, 1)) (0, 0)) ++ [(0, 4), (0, 10)]
noncomputable def marksE (n : Nat) : E := (sumB (marksRng 0 0) (bitsFrom n) 0).getD (.n 0)
noncomputable def markedFrom (n : Nat) : List V := (List.range 32).map fun j => selB (Nat.ble n j) (selB (isPl j) (.bool (.eq (.x (1 + j)) (.n 1))) (.bool (.lit false))) .bad
noncomputable def marksSt (n : Nat) : Blk := .cells [.int .u32 (marksE n), .int .i64 (.x 33), .int .i64 (.n 0), .int .u8 (.n 0), .int .i64 (.n 0), .int .u8 (.n 0), .int .i64 (.n 0), .bool (.lit false)] true true none
noncomputable def marksBlks (n : Nat) : List (Nat × Blk) := [(0, .cells tab false false none), (4097, marksSt n), (4098, .cells (markedFrom n) true true none)]

/-- the first loop's state -/
noncomputable def pnA : Pn := ⟨1, 34, [(0, .sarr 4096 1 (.x 0)), (3, .ptr 4097 0), (4, .ptr 4098 0), (5, .int .i64 (.x 33)), (6, .int .i64 (.x 34))],
  (4096, .srow 0 [.int .u8] (.x 0)) :: marksBlks 0, 4099, 0, [], marksRng 0 0, []⟩
/-- the second loop's state, by its number of rounds -/
noncomputable def pnB (n : Nat) : Pn := ⟨1, 34, [(3, .ptr 4097 0), (4, .ptr 4098 0), (9, .int .i64 (.n (.ofNat n)))], marksBlks n, 4099, 0, [], marksRng 0 0, []⟩

noncomputable def hdA : Hds := ⟨fun _ => pnA, fun _ => true, fun _ => 0, fun _ _ => 0⟩
noncomputable def hdB : Hds := ⟨pnB, fun n => Nat.ble n 32, fun n => 32 - n, fun env _ => onInt (env 9) (fun _ e => onN e Int.toNat 0) 0⟩
noncomputable def hdC : Hds := ⟨fun _ => pnB 32, fun _ => true, fun _ => 0, fun _ _ => 0⟩

/-- the first loop, by cases: the element, and whether it is marked -/
noncomputable def caseA (v b : Nat) : Pc := ⟨[(.eq (.rd 0 0 0 255 (.x 34)) (.n (.ofNat v)), true)], marksRng (Nat.succ (1 + v % 15 + 16 * (v / 128))) b⟩
noncomputable def casesA : List Pc := (List.range 256).flatMap fun v => [caseA v 0, caseA v 1]
noncomputable def caseB (n b : Nat) : Pc := ⟨[], marksRng (Nat.succ n) b⟩
noncomputable def casesB (n : Nat) : List Pc := [caseB n 0, caseB n 1]

def marksPath : List Dir := [.r, .r, .r, .r, .r, .l, .r, .b]
noncomputable def marksRest : Code := cR (place [.r, .r, .r, .r, .r] marksCode)
def marksPath2 : List Dir := [.r, .l, .r, .b]
noncomputable def marksRest2 : Code := cR (place [.r] marksRest)
noncomputable def loopA : Code := cLoop (place marksPath marksCode)
noncomputable def loopB : Code := cLoop (place marksPath2 marksRest)

noncomputable def headA : Bool := goodT (leafH hdA 2) (evHead Tryd.prog cfM 10 114 marksPath marksCode (setArgs (paV marksPa 0 0) 0 env0) (mem1 glob marksPa) ⟨[], paR marksPa⟩)
noncomputable def roundA (q : Pc) : Bool := goodT (leafL hdA hdA (ltV (fun _ => 0) 34) 0 2 0) (evCode loopA Tryd.prog cfM 10 114 pnA.env pnA.mem q)
noncomputable def headB : Bool := goodT (leafH hdB 2) (evHead Tryd.prog cfM 10 114 marksPath2 marksRest pnA.env pnA.mem pnA.pc)
noncomputable def roundB (n : Nat) (q : Pc) : Bool := goodT (leafL hdB hdC (fun h h' _ => Nat.blt (32 - h') (32 - h)) 2 2 n) (evCode loopB Tryd.prog cfM 10 114 (pnB n).env (pnB n).mem q)
noncomputable def endM : Bool := goodT (leafR 2) (evCode marksRest2 Tryd.prog cfM 10 114 (pnB 32).env (pnB 32).mem (pnB 32).pc)

end Go.Proofs.YtcipfcbaclfnhaaDoor
