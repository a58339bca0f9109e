/-
  What is defined here: the runs of plugboardlaw26.HostsErrors: up to its loop, by parts of the pipe, its rounds, what comes behind it.
  Conditions: none (definitions only).
-/
import Derived.Test.YtfliaagohfoipaaGreatHBase
namespace Go.Proofs.YtfliaagohfoipaaGreat
open Go.Sy Go.RowKit

set_option maxRecDepth 1000000

noncomputable def erCode : Code := Tryz.f5.body.getD .skip
theorem er_body : Tryz.f5.body = some erCode := by kernel_rfl
def erPa : List Pa := [.agg [.int .u8, .int .u8, .bool, .int .u8, .int .i64, .int .i64, .int .u8, .int .u8, .int .u8, .bool, .bool], .leaf (.int .i64)]
theorem er_pa : Tryz.f5.params.toList.mapM (paOf Tryz.prog) = some erPa := by kernel_rfl
def erPath : List Dir := [.r, .r, .r, .r, .r, .r, .r, .r, .r, .l, .b]
noncomputable def erRest : Code := cR (place [.r, .r, .r, .r, .r, .r, .r, .r, .r] erCode)
noncomputable def erLoop : Code := cLoop (place erPath erCode)
/-- ranges of some variables: kind (3), period (5) -/
noncomputable def rngs (l : List (Nat × Int × Int)) (r : List (Int × Int)) : List (Int × Int) := l.foldr (fun x r => setRng r x.1 fun _ => x.2) r
noncomputable def erQ (l : List (Nat × Int × Int)) : Pc := ⟨[], rngs l (paR erPa)⟩

noncomputable def pipeVs : List V := [.int .u8 (.x 0), .int .u8 (.x 1), .bool (.eq (.x 2) (.n 1)), .int .u8 (.x 3), .int .i64 (.x 4), .int .i64 (.x 5), .int .u8 (.x 6), .int .u8 (.x 7), .int .u8 (.x 8), .bool (.eq (.x 9) (.n 1)), .bool (.eq (.x 10) (.n 1))]
noncomputable def firstV : V := .agg [.int .u8 (.x 12), .int .u8 (.x 13), .bool (.eq (.x 14) (.n 1)), .int .u8 (.x 15), .int .i64 (.x 16), .int .i64 (.x 17), .int .u8 (.x 18), .int .u8 (.x 19), .int .u8 (.x 20), .bool (.eq (.x 21) (.n 1)), .bool (.eq (.x 22) (.n 1))]
noncomputable def bulkV : V := .agg [nu8 9, nu8 1, bT, nu8 2, ni64 512, ni64 0, nu8 2, nu8 0, nu8 0, bF, bF]
/-- m pipes are open; c: the first one has a slot, and no place in the ring -/
noncomputable def pnM (m c : Nat) : Pn := ⟨12, selB (Nat.beq m 0) 0 11, [(2, .ptr 4096 0), (9, .ptr 4103 0), (14, ni64 m)],
  [(4096, .cells pipeVs true true none),
   (4103, .cells [.bad, .bad, .bad, .map 4101, .map 4102, .bad, selB (Nat.beq m c) .nilSlice (.slice 4104 0 (m - c) (.n (m - c))), .bad, .bad, .bad, .bad] true true none),
   (4101, .map ((List.range m).map fun i => (ni64 i, selB (Nat.beq i 0) firstV bulkV, i)) m true), (4102, .map [] 0 true)]
  ++ selB (Nat.beq m c) [] [(4104, .cells ((List.range (m - c)).map fun i => ni64 (c + i)) true true (some (0, 1)))], 4200, 1, selB (Nat.beq m c) [] [(0, m - c)], selB (Nat.beq m 0) (paR erPa) (paR erPa ++ (paR erPa).take 11), []⟩
noncomputable def pnMH (h : Nat) : Pn := pnM (h / 2) (h % 2)
noncomputable def pickM (env : Env) (m : Mem) : Nat := natV (env 14) * 2 + (natV (env 14) - lenSl (cellV m 4103 6))
noncomputable def muM (h : Nat) : Nat := 600 - h / 2
noncomputable def okM (h : Nat) : Bool := andB (Nat.blt h 514) (notB (Nat.beq h 1))
noncomputable def hdM : Hds := ⟨pnMH, okM, muM, pickM⟩
noncomputable def hdE : Hds := ⟨pnMH, fun h => andB (Nat.blt 511 h) (Nat.blt h 514), fun _ => 0, pickM⟩
noncomputable def ltM (h h' : Nat) (_ : Ren) : Bool := Nat.blt (muM h') (muM h)

noncomputable def headM (l : List (Nat × Int × Int)) : Bool := goodT (leafH hdM 4) (evHead Tryz.prog cfH 300 193 erPath erCode (setArgs (paV erPa 0 0) 0 env0) (mem1 [] erPa) (erQ l))
/-- kind k, period v + 1 -/
noncomputable def rV (k v : Nat) : List (Nat × Int × Int) := [(3, .ofNat k, .ofNat k), (5, .ofNat (v + 1), .ofNat (v + 1))]
noncomputable def headV (k v : Nat) : Bool := headM (rV k v)
noncomputable def roundM (h : Nat) : Bool := goodT (leafL hdM hdE ltM 0 4 h) (evCode erLoop Tryz.prog cfH 300 193 (pnMH h).env (pnMH h).mem (pnMH h).pc)
noncomputable def roundE (h : Nat) : Bool := orB (orB (Nat.beq h 1) (Nat.ble 514 h)) (roundM h)
noncomputable def endM (h : Nat) : Bool := goodT (leafR 4) (evCode erRest Tryz.prog cfH 300 193 (pnMH h).env (pnMH h).mem (pnMH h).pc)

end Go.Proofs.YtfliaagohfoipaaGreat
