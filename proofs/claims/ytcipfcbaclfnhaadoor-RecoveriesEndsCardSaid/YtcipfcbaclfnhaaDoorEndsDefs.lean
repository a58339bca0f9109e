/-
  What is defined here: the runs of plugboardlaw29.RecoveriesEnds: up to its loop, a round of it, what comes behind it.
  Conditions: none (definitions only).
-/
import Derived.Test.YtcipfcbaclfnhaaDoorBase2
import Derived.Test.YtcipfcbaclfnhaaDoorSySlim
namespace Go.Proofs.YtcipfcbaclfnhaaDoor
open Go.Sy Go.RowKit

set_option maxRecDepth 1000000

noncomputable def endsCode : Code := Tryd.f3.body.getD .skip
theorem ends_body : Tryd.f3.body = some endsCode := by kernel_rfl
def endsPa : List Pa := [.arr [.int .u8, .int .u8, .int .u8]]
theorem ends_pa : Tryd.f3.params.toList.mapM (paOf Tryd.prog) = some endsPa := by kernel_rfl
def endsPath : List Dir := [.r, .r, .r, .r, .l, .r, .b]
/-- the loop's pattern: clears, resets, offs, i (slots 4 to 7: x1 to x4); the State: Clears, Resets, Wanted, Wait, Quiet, Given (x5 to x10) -/
noncomputable def endsPt : Pt := ⟨1, [0, 3], [4, 5, 6, 7], [(0, []), (4096, []), (4097, [false, true, true, true, true, false, true, true])]⟩
noncomputable def endsEnv : Env := fun j => cond (Nat.beq j 0) (.sarr 4096 3 (.x 0)) (cond (Nat.beq j 3) (.ptr 4097 0) (cond (Nat.ble 4 j && Nat.ble j 7) (.int .i64 (.n 0)) .bad))
noncomputable def endsSt : Blk := .cells [.int .u32 (.n 0), .int .i64 (.n 0), .int .i64 (.n 0), .int .u8 (.n 0), .int .i64 (.n 0), .int .u8 (.n 0), .int .i64 (.n 0), .bool (.lit false)] true true none
noncomputable def endsMem : Mem := ⟨((Tr.nil.set 0 (.cells tab false false none)).set 4096 (.srow 0 [.int .u8, .int .u8, .int .u8] (.x 0))).set 4097 endsSt, 4098, .nil, 0⟩
noncomputable def endsRng : List (Int × Int) := [(1, 30), (0, 16), (0, 3), (0, 1), (0, 40), (0, 4), (0, 3), (0, 3), (0, 4), (0, 5), (0, 1)]
noncomputable def endsPc : Pc := ⟨[], endsRng⟩
noncomputable def endsHead : Option (List Vc) := vcs (tgtH endsPt endsEnv endsMem 2) (evHead Tryd.prog cfJ 10 95 endsPath endsCode (setArgs (paV endsPa 0 0) 0 env0) (mem1 glob endsPa) ⟨[], paR endsPa⟩)
noncomputable def endsLoop : Code := cLoop (place endsPath endsCode)
noncomputable def endsRound : Option (List Vc) := vcs (tgtL endsPt endsEnv endsMem 0 2) (evCode endsLoop Tryd.prog cfJ 10 95 (genEnv endsPt endsEnv) (genMem endsPt endsMem) endsPc)
noncomputable def endsRest : Code := cR (place [.r, .r, .r, .r] endsCode)
noncomputable def endsEnd : Option (List Vc) := vcs (tgtR 2) (evCode endsRest Tryd.prog cfJ 10 95 (genEnv endsPt endsEnv) (genMem endsPt endsMem) endsPc)

end Go.Proofs.YtcipfcbaclfnhaaDoor
