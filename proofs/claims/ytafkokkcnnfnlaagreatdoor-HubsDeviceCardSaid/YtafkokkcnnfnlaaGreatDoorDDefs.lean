/-
  What is defined here: the runs of plugboardlaw18.HubsDevice: up to the request, up to the node, to the end.
  Conditions: none (definitions only).
-/
import Derived.Test.YtafkokkcnnfnlaaGreatDoorDBase
import Derived.Test.YtafkokkcnnfnlaaGreatDoorSyPathC
namespace Go.Proofs.YtafkokkcnnfnlaaGreatDoor
open Go.Sy Go.RowKit

set_option maxRecDepth 1000000

noncomputable def dvCode : Code := Tryz.f3.body.getD .skip
theorem dv_body : Tryz.f3.body = some dvCode := by kernel_rfl
def dvPa : List Pa := [.leaf (.int .u8), .leaf (.int .u8), .agg [.int .u8, .int .u8, .int .u8, .int .u8]]
theorem dv_pa : Tryz.f3.params.toList.mapM (paOf Tryz.prog) = some dvPa := by kernel_rfl
noncomputable def kwA : Kw := kwCo Tryz.prog cfD 10 357 [] [] kwD
theorem kwA_ok (ρ : Nat → Int) : KwOK Tryz.prog ρ kwA := kwCo_ok plain (cfD_ok ρ) (kwD_ok ρ)
noncomputable def cfA : FuncId → List V → M V := evFn Tryz.prog kwA 10 30
theorem cfA_ok (ρ : Nat → Int) : CallsOK Tryz.prog ρ cfA := evFn_ok plain (kwA_ok ρ) 10 30
def pathA : List Dir := [.r, .r, .r, .r, .r, .r, .r, .r, .r, .r, .r, .r, .r, .r]
def pathB : List Dir := [.r, .r, .r, .r, .r, .r, .r, .r]
noncomputable def restA : Code := place pathA dvCode
noncomputable def restC : Code := place pathB restA

noncomputable def wrem (k : IntKind) (e : E) (a b : Nat) : B × Bool := (.eq (.bin .rem k e (.n (.ofNat a))) (.n (.ofNat b)), true)
noncomputable def wquo (e : E) (a : Nat) : E := .bin .quo .u64 e (.n (.ofNat a))
/-- by (is the hub self-powered?, is it fast?, its number of ports but one) -/
noncomputable def qA (s f r : Nat) : Pc := ⟨[wrem .u64 (wquo (.x 0) 4) 2 s, wrem .u64 (wquo (.x 0) 8) 2 f, wrem (selB (Nat.beq s 0) .u64 .u8) (.x 0) (selB (Nat.beq s 0) 4 7) r], paR dvPa⟩

noncomputable def nu8 (n : Nat) : V := .int .u8 (.n (.ofNat n))
noncomputable def nu16 (n : Nat) : V := .int .u16 (.n (.ofNat n))
noncomputable def ni64 (n : Nat) : V := .int .i64 (.n (.ofNat n))
noncomputable def bT : V := .bool (.lit true)
noncomputable def bF : V := .bool (.lit false)
noncomputable def bads (n : Nat) : List V := Nat.rec [] (fun _ l => V.bad :: l) n
noncomputable def portV (on : V) (ch : V) : List V := [.nilIface, on, bF, bF, bF, bF, bF, ni64 0, ch]
/-- the ports: the first ones' current are the variables from v on -/
noncomputable def portsV (on : Nat → V) : List V := portV (on 0) (nu16 0) ++ portV (on 1) (nu16 0) ++ portV (on 2) (nu16 0) ++ portV (on 3) (nu16 0) ++ portV (on 4) (nu16 0) ++ portV (on 5) (nu16 0) ++ portV (on 6) (nu16 0)
noncomputable def zV : List V := [.int .u8 (.x 2), .int .u8 (.x 3), .int .u8 (.x 4), .int .u8 (.x 5)]
/-- the device and the hub; variables: x6 ports, x7 Self, x8 speed, x9 status stages -/
noncomputable def devBlks (on : Nat → V) : List (Nat × Blk) := [(4096, .cells zV true true none),
  (4097, .cells [.bad, .int .i64 (.x 6), .bool (.eq (.x 7) (.n 1)), .bad, .bad, .bad] true true none),
  (4098, .cells ([.int .u8 (.x 8), .int .i64 (.x 6), .bool (.eq (.x 7) (.n 1)), .bad, .bad, .bad, .nilPtr, .ptr 4099 0] ++ portsV on ++ [.ptr 4100 0, .nilIface, nu8 0, bF]) true true none),
  (4099, .cells ([.int .u8 (.x 8), nu16 512, nu8 9, nu8 0, .int .u8 (.x 10), nu8 64, .int .u16 (.x 11), nu16 7, nu16 256, nu8 0, nu8 0, nu8 0, nu8 1, .slice 4106 0 1 (.n 1), .nilSlice, .bool (.eq (.x 7) (.n 1))] ++ [.iface 168 (.agg [.ptr 4098 0]), bT, bT, nu8 2, nu8 3, nu8 1, .slice 4101 0 1 (.n 1), .nilSlice, bF, .nilPtr, .ptr 4102 0, .ptr 4103 0, .int .i64 (.x 9), .slice 4104 0 1 (.t 0 0), bT, ni64 0]) true true none),
  (4100, .cells [.nilSlice, ni64 0, .nilSlice, nu8 1, bT, nu8 3, ni64 1, bF, bF] true true none),
  (4101, .cells [nu8 0] true true none),
  (4102, .cells [bT, nu8 3, .bad, .iface 192 (.ptr 4103 0), nu8 0, .nilPtr] true true none),
  (4103, .cells ([ni64 64, .iface 221 (.func (.func 118) [.ptr 4099 0] [])] ++ bads 13 ++ [.int .i64 (.x 9)]) true true none),
  (4104, .cells [.ptr 4100 0] true true none),
  (4106, .cells [nu16 25, nu8 1, nu8 1, nu8 0, .bool (.eq (.x 7) (.n 1)), bT, .int .u8 (.x 12), .slice 4107 0 1 (.n 1)] true true none),
  (4107, .cells [.slice 4108 0 1 (.n 1)] true true none),
  (4108, .cells [nu8 0, nu8 0, nu8 1, nu8 9, nu8 0, nu8 0, nu8 0, .nilSlice, .slice 4109 0 1 (.n 1)] true true none),
  (4109, .cells [nu8 1, bT, nu8 3, nu16 1, .int .u8 (.x 13)] true true none)]
noncomputable def pnD (k hi : Nat) (on : Nat → V) (ones : List (Int × Int)) (s : Nat) : Pn := ⟨6, k, [(2, .agg zV), (5, .ptr 4096 0), (7, .ptr 4097 0), (11, .ptr 4098 0), (16, ni64 (selB (Nat.beq s 1) 500 100))], devBlks on, 4110, 1, [(0, 1)],
  [(0, 255), (0, 255), (0, 255), (0, 255), (0, 255), (0, 255), (1, 7), (0, 1), (1, 2), (0, .ofNat hi), (0, 1), (0, 65535), (50, 250), (7, 8)] ++ ones, [(.eq (.x 7) (.n 1), Nat.beq s 1)]⟩
noncomputable def pnB (s : Nat) : Pn := pnD 8 100 (fun _ => bF) [] s
noncomputable def pnC (s : Nat) : Pn := pnD 15 1000 (fun i => .bool (.eq (.x (14 + i)) (.n 1))) [(0, 1), (0, 1), (0, 1), (0, 1), (0, 1), (0, 1), (0, 1)] s
noncomputable def natV (v : V) : Nat := onInt v (fun _ e => onN e Int.toNat 0) 0
noncomputable def pickD (env : Env) (_ : Mem) : Nat := selB (Nat.beq (natV (env 16)) 500) 1 0
noncomputable def hdB : Hds := ⟨pnB, fun h => Nat.blt h 2, fun _ => 0, pickD⟩
noncomputable def hdC : Hds := ⟨pnC, fun h => Nat.blt h 2, fun _ => 0, pickD⟩

noncomputable def headA (q : Pc) : Bool := goodT (leafH hdB 6) (evHeadC [(3, [])] Tryz.prog cfA 10 340 pathA dvCode (setArgs (paV dvPa 0 0) 0 env0) (mem1 [] dvPa) q)
noncomputable def headB (s : Nat) (q : Pc) : Bool := goodT (leafH hdC 6) (evHeadC [] Tryz.prog cfA 10 340 pathB restA (pnB s).env (pnB s).mem q)
noncomputable def endC (s : Nat) (q : Pc) : Bool := goodT (leafR 6) (evCode restC Tryz.prog cfA 10 340 (pnC s).env (pnC s).mem q)

/-- by the request's type and length -/
noncomputable def partB (t l : Nat) (pc : Pc) : Pc := ⟨wrem .u64 (.x 2) 4 t :: wrem .u64 (wquo (.x 2) 4) 8 l :: pc.cs, pc.rng⟩
/-- and by its code -/
noncomputable def partK (c : Nat) (pc : Pc) : Pc := ⟨wrem .u8 (.x 3) 14 c :: pc.cs, pc.rng⟩
noncomputable def partO (pc : Pc) : Pc := ⟨(.eq (.bin .rem .u8 (.x 3) (.n 14)) (.n 1), false) :: (.eq (.bin .rem .u8 (.x 3) (.n 14)) (.n 3), false) :: pc.cs, pc.rng⟩
/-- and by its index -/
noncomputable def partI (i : Nat) (pc : Pc) : Pc := ⟨wrem .u8 (.x 5) 9 i :: pc.cs, pc.rng⟩
noncomputable def caseC (s k : Nat) : Pc := ⟨(pnC s).cs, setRng (setRng (pnC s).rng 6 fun _ => (.ofNat k, .ofNat k)) 7 fun _ => (.ofNat s, .ofNat s)⟩

noncomputable def listA (s f : Nat) : List (Nat × Nat × Nat) := (List.range (selB (Nat.beq s 0) 4 7)).map fun r => (s, f, r)
noncomputable def qsA : List Pc := ((List.range 2).flatMap fun s => (List.range 2).flatMap fun f => listA s f).map fun x => qA x.1 x.2.1 x.2.2
/-- by the length: 0, 4, another one -/
noncomputable def partM (t m : Nat) (pc : Pc) : Pc := selB (Nat.beq m 0) (partB t 0 pc) (selB (Nat.beq m 1) (partB t 4 pc) ⟨wrem .u64 (.x 2) 4 t :: (.eq (.bin .rem .u64 (wquo (.x 2) 4) (.n 8)) (.n 4), false) :: (.eq (.bin .rem .u64 (wquo (.x 2) 4) (.n 8)) (.n 0), false) :: pc.cs, pc.rng⟩)
noncomputable def partN (pc : Pc) : Pc := ⟨(.eq (.bin .rem .u8 (.x 3) (.n 14)) (.n 0), false) :: pc.cs, pc.rng⟩
noncomputable def qsM (m : Nat) (pc : Pc) : List Pc := partN (partM 1 m pc) :: (List.range 9).map fun i => partI i (partK 0 (partM 1 m pc))
noncomputable def qsK (pc : Pc) : List Pc := partO (partB 3 0 pc) :: ((List.range 9).map fun i => partI i (partK 1 (partB 3 0 pc))) ++ (List.range 9).map fun i => partI i (partK 3 (partB 3 0 pc))
noncomputable def qsL (t : Nat) (pc : Pc) : List Pc := (List.range 8).map fun l => partB t l pc
noncomputable def qsB (pc : Pc) : List Pc := qsL 0 pc ++ (qsM 0 pc ++ qsM 1 pc ++ qsM 2 pc) ++ qsL 2 pc ++ ((List.range 7).map fun l => partB 3 (l + 1) pc) ++ qsK pc
noncomputable def qsC (s : Nat) : List Pc := (List.range 7).map fun k => caseC s (k + 1)

end Go.Proofs.YtafkokkcnnfnlaaGreatDoor
