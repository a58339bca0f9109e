/-
  What is proved here: plugboardlaw29.RecoveriesCalm returns true for every input.
  Conditions: the table of math/bits is laid, which the card ties to the program's text.
-/
import Derived.Test.YtcipfcbaclfnhaaDoorBase
import Derived.Test.YtcipfcbaclfnhaaDoorSyNorm
namespace Go.Proofs.YtcipfcbaclfnhaaDoor
open Go.Sy Go.RowKit Go.ChangeShapes Go.WideShapes Go.ChangeAt

set_option maxRecDepth 1000000

def calmShapes : List Sh := [⟨true, [.int .u32, .int .u8, .int .u8, .int .u8, .int .u8, .int .u8, .int .u8, .int .u8]⟩, ⟨false, [.int .u8]⟩]
theorem calm_shapes : Tryd.f6.params.toList.mapM (shapeOf Tryd.prog) = some calmShapes := by kernel_rfl
noncomputable def calmCode : Code := Tryd.f6.body.getD .skip
theorem calm_body : Tryd.f6.body = some calmCode := by kernel_rfl
noncomputable def cf : FuncId → List V → M V := evFn Tryd.prog kw 10 20
theorem cf_ok (ρ : Nat → Int) : CallsOK Tryd.prog ρ cf := evFn_ok plain (kw_ok ρ) 10 20

/-- the loop's pattern: the number of rounds; the State at the start, the State now: Clears, Resets, Wait, Quiet -/
noncomputable def calmPt : Pt := ⟨9, [1, 5, 6], [7], [(0, []), (4100, [false, true, true, false, true, false, true, false]), (4101, [false, true, true, false, true, false, true, false])]⟩
noncomputable def calmEnv : Env := fun j => cond (Nat.beq j 1) (.int .u8 (.x 8)) (cond (Nat.beq j 5) (.ptr 4100 0) (cond (Nat.beq j 6) (.ptr 4101 0) (cond (Nat.beq j 7) (.int .i64 (.n 0)) .bad)))
noncomputable def calmSt : Blk := .cells [.int .u32 (.n 0), .int .i64 (.n 0), .int .i64 (.n 0), .int .u8 (.n 0), .int .i64 (.n 0), .int .u8 (.n 0), .int .i64 (.n 0), .bool (.lit false)] true true none
noncomputable def calmMem : Mem := ⟨((Tr.nil.set 0 (.cells tab false false none)).set 4100 calmSt).set 4101 calmSt, 4102, .nil, 0⟩
noncomputable def calmRng : List (Int × Int) := [(0, 4294967295), (0, 255), (0, 255), (0, 255), (0, 255), (0, 255), (0, 255), (0, 255), (0, 255), (0, 255), (0, 5), (-1, 4), (0, 6), (0, 70), (0, 5), (-1, 4), (0, 6), (0, 70)]
noncomputable def calmPc : Pc := ⟨[], calmRng⟩
def calmPath : List Dir := [.r, .r, .r, .r, .r, .r, .r, .r, .l, .r, .b]
noncomputable def calmHead : Option (List Vc) := vcs (tgtH calmPt calmEnv calmMem 4) (evHead Tryd.prog cf 10 66 calmPath calmCode (setArgs (argsV calmShapes 0) 0 env0) (mem0 glob) ⟨[], argsRng calmShapes⟩)
noncomputable def calmLoop : Code := cLoop (place calmPath calmCode)
noncomputable def calmRound : Option (List Vc) := vcs (tgtL calmPt calmEnv calmMem 0 4) (evCode calmLoop Tryd.prog cf 10 66 (genEnv calmPt calmEnv) (genMem calmPt calmMem) calmPc)
noncomputable def calmRest : Code := cR (place [.r, .r, .r, .r, .r, .r, .r, .r] calmCode)
noncomputable def calmEnd : Option (List Vc) := vcs (tgtR 4) (evCode calmRest Tryd.prog cf 10 66 (genEnv calmPt calmEnv) (genMem calmPt calmMem) calmPc)

/-! ### the leaves, as the kernel reckons them -/

noncomputable def calmHeadZ : List Vz := [{ cs := [(BZ.lt (((Z.x 4).md (Z.n 8)).sub (Z.n 1)) (Z.n 0), true), (BZ.eq ((Z.x 3).md (Z.n 3)) (Z.n 2), true), (BZ.lt (Z.n 0) ((Z.x 3).md (Z.n 3)), true)], rng := [(0, 4294967295), (0, 255), (0, 255), (0, 255), (0, 255), (0, 255), (0, 255), (0, 255), (0, 255)], tag := 0, s := [GZ.ofZ (Z.n 0), GZ.ofZ ((Z.x 1).md (Z.n 6)), GZ.ofZ (((Z.x 2).md (Z.n 6)).sub (Z.n 1)), GZ.ofZ (Z.n 0), GZ.ofZ ((Z.x 6).md (Z.n 71)), GZ.ofZ ((Z.x 1).md (Z.n 6)), GZ.ofZ (((Z.x 2).md (Z.n 6)).sub (Z.n 1)), GZ.ofZ (Z.n 0), GZ.ofZ ((Z.x 6).md (Z.n 71))] }, { cs := [(BZ.lt (((Z.x 4).md (Z.n 8)).sub (Z.n 1)) (Z.n 0), false), (BZ.eq ((Z.x 3).md (Z.n 3)) (Z.n 2), true), (BZ.lt (Z.n 0) ((Z.x 3).md (Z.n 3)), true)], rng := [(0, 4294967295), (0, 255), (0, 255), (0, 255), (0, 255), (0, 255), (0, 255), (0, 255), (0, 255)], tag := 0, s := [GZ.ofZ (Z.n 0), GZ.ofZ ((Z.x 1).md (Z.n 6)), GZ.ofZ (((Z.x 2).md (Z.n 6)).sub (Z.n 1)), GZ.ofZ (((Z.x 4).md (Z.n 8)).sub (Z.n 1)), GZ.ofZ ((Z.x 6).md (Z.n 71)), GZ.ofZ ((Z.x 1).md (Z.n 6)), GZ.ofZ (((Z.x 2).md (Z.n 6)).sub (Z.n 1)), GZ.ofZ (((Z.x 4).md (Z.n 8)).sub (Z.n 1)), GZ.ofZ ((Z.x 6).md (Z.n 71))] }, { cs := [(BZ.lt (((Z.x 4).md (Z.n 8)).sub (Z.n 1)) (Z.n 0), true), (BZ.eq ((Z.x 3).md (Z.n 3)) (Z.n 2), false), (BZ.lt (Z.n 0) ((Z.x 3).md (Z.n 3)), true)], rng := [(0, 4294967295), (0, 255), (0, 255), (0, 255), (0, 255), (0, 255), (0, 255), (0, 255), (0, 255)], tag := 0, s := [GZ.ofZ (Z.n 0), GZ.ofZ ((Z.x 1).md (Z.n 6)), GZ.ofZ (((Z.x 2).md (Z.n 6)).sub (Z.n 1)), GZ.ofZ (Z.n 0), GZ.ofZ ((Z.x 6).md (Z.n 71)), GZ.ofZ ((Z.x 1).md (Z.n 6)), GZ.ofZ (((Z.x 2).md (Z.n 6)).sub (Z.n 1)), GZ.ofZ (Z.n 0), GZ.ofZ ((Z.x 6).md (Z.n 71))] }, { cs := [(BZ.lt (((Z.x 4).md (Z.n 8)).sub (Z.n 1)) (Z.n 0), false), (BZ.eq ((Z.x 3).md (Z.n 3)) (Z.n 2), false), (BZ.lt (Z.n 0) ((Z.x 3).md (Z.n 3)), true)], rng := [(0, 4294967295), (0, 255), (0, 255), (0, 255), (0, 255), (0, 255), (0, 255), (0, 255), (0, 255)], tag := 0, s := [GZ.ofZ (Z.n 0), GZ.ofZ ((Z.x 1).md (Z.n 6)), GZ.ofZ (((Z.x 2).md (Z.n 6)).sub (Z.n 1)), GZ.ofZ (((Z.x 4).md (Z.n 8)).sub (Z.n 1)), GZ.ofZ ((Z.x 6).md (Z.n 71)), GZ.ofZ ((Z.x 1).md (Z.n 6)), GZ.ofZ (((Z.x 2).md (Z.n 6)).sub (Z.n 1)), GZ.ofZ (((Z.x 4).md (Z.n 8)).sub (Z.n 1)), GZ.ofZ ((Z.x 6).md (Z.n 71))] }, { cs := [(BZ.lt (((Z.x 4).md (Z.n 8)).sub (Z.n 1)) (Z.n 0), true), (BZ.lt (Z.n 0) ((Z.x 3).md (Z.n 3)), false)], rng := [(0, 4294967295), (0, 255), (0, 255), (0, 255), (0, 255), (0, 255), (0, 255), (0, 255), (0, 255)], tag := 0, s := [GZ.ofZ (Z.n 0), GZ.ofZ ((Z.x 1).md (Z.n 6)), GZ.ofZ (((Z.x 2).md (Z.n 6)).sub (Z.n 1)), GZ.ofZ (Z.n 0), GZ.ofZ ((Z.x 6).md (Z.n 71)), GZ.ofZ ((Z.x 1).md (Z.n 6)), GZ.ofZ (((Z.x 2).md (Z.n 6)).sub (Z.n 1)), GZ.ofZ (Z.n 0), GZ.ofZ ((Z.x 6).md (Z.n 71))] }, { cs := [(BZ.lt (((Z.x 4).md (Z.n 8)).sub (Z.n 1)) (Z.n 0), false), (BZ.lt (Z.n 0) ((Z.x 3).md (Z.n 3)), false)], rng := [(0, 4294967295), (0, 255), (0, 255), (0, 255), (0, 255), (0, 255), (0, 255), (0, 255), (0, 255)], tag := 0, s := [GZ.ofZ (Z.n 0), GZ.ofZ ((Z.x 1).md (Z.n 6)), GZ.ofZ (((Z.x 2).md (Z.n 6)).sub (Z.n 1)), GZ.ofZ (((Z.x 4).md (Z.n 8)).sub (Z.n 1)), GZ.ofZ ((Z.x 6).md (Z.n 71)), GZ.ofZ ((Z.x 1).md (Z.n 6)), GZ.ofZ (((Z.x 2).md (Z.n 6)).sub (Z.n 1)), GZ.ofZ (((Z.x 4).md (Z.n 8)).sub (Z.n 1)), GZ.ofZ ((Z.x 6).md (Z.n 71))] }]
theorem calmHead_eq : (calmHead).map (List.map normVc) = some calmHeadZ := by kernel_rfl
noncomputable def calmRoundZ : List Vz := [{ cs := [(BZ.lt (Z.x 17) (Z.n 63), false), (BZ.lt (Z.n 0) (Z.x 16), true), (BZ.lt (Z.x 9) (Z.x 8), true)], rng := [(0, 4294967295), (0, 255), (0, 255), (0, 255), (0, 255), (0, 255), (0, 255), (0, 255), (0, 255), (0, 255), (0, 5), (-1, 4), (0, 6), (0, 70), (0, 5), (-1, 4), (1, 6), (63, 70)], tag := 0, s := [GZ.ofZ ((Z.x 9).add (Z.n 1)), GZ.ofZ (Z.x 10), GZ.ofZ (Z.x 11), GZ.ofZ (Z.x 12), GZ.ofZ (Z.x 13), GZ.ofZ (Z.n 0), GZ.ofZ (Z.n 0), GZ.ofZ (Z.n 0), GZ.ofZ (Z.n 0)] }, { cs := [(BZ.lt (Z.x 17) (Z.n 63), true), (BZ.lt (Z.n 0) (Z.x 16), true), (BZ.lt (Z.x 9) (Z.x 8), true)], rng := [(0, 4294967295), (0, 255), (0, 255), (0, 255), (0, 255), (0, 255), (0, 255), (0, 255), (0, 255), (0, 255), (0, 5), (-1, 4), (0, 6), (0, 70), (0, 5), (-1, 4), (1, 6), (0, 62)], tag := 0, s := [GZ.ofZ ((Z.x 9).add (Z.n 1)), GZ.ofZ (Z.x 10), GZ.ofZ (Z.x 11), GZ.ofZ (Z.x 12), GZ.ofZ (Z.x 13), GZ.ofZ (Z.x 14), GZ.ofZ (Z.x 15), GZ.ofZ ((Z.x 16).sub (Z.n 1)), GZ.ofZ ((Z.x 17).add (Z.n 1))] }, { cs := [(BZ.lt (Z.x 17) (Z.n 63), false), (BZ.lt (Z.n 0) (Z.x 16), false), (BZ.lt (Z.x 9) (Z.x 8), true)], rng := [(0, 4294967295), (0, 255), (0, 255), (0, 255), (0, 255), (0, 255), (0, 255), (0, 255), (0, 255), (0, 255), (0, 5), (-1, 4), (0, 6), (0, 70), (0, 5), (-1, 4), (0, 0), (63, 70)], tag := 0, s := [GZ.ofZ ((Z.x 9).add (Z.n 1)), GZ.ofZ (Z.x 10), GZ.ofZ (Z.x 11), GZ.ofZ (Z.x 12), GZ.ofZ (Z.x 13), GZ.ofZ (Z.n 0), GZ.ofZ (Z.n 0), GZ.ofZ (Z.n 0), GZ.ofZ (Z.n 0)] }, { cs := [(BZ.lt (Z.x 17) (Z.n 63), true), (BZ.lt (Z.n 0) (Z.x 16), false), (BZ.lt (Z.x 9) (Z.x 8), true)], rng := [(0, 4294967295), (0, 255), (0, 255), (0, 255), (0, 255), (0, 255), (0, 255), (0, 255), (0, 255), (0, 255), (0, 5), (-1, 4), (0, 6), (0, 70), (0, 5), (-1, 4), (0, 0), (0, 62)], tag := 0, s := [GZ.ofZ ((Z.x 9).add (Z.n 1)), GZ.ofZ (Z.x 10), GZ.ofZ (Z.x 11), GZ.ofZ (Z.x 12), GZ.ofZ (Z.x 13), GZ.ofZ (Z.x 14), GZ.ofZ (Z.x 15), GZ.ofZ (Z.x 16), GZ.ofZ ((Z.x 17).add (Z.n 1))] }, { cs := [(BZ.lt (Z.x 9) (Z.x 8), false)], rng := [(0, 4294967295), (0, 255), (0, 255), (0, 255), (0, 255), (0, 255), (0, 255), (0, 255), (0, 255), (0, 255), (0, 5), (-1, 4), (0, 6), (0, 70), (0, 5), (-1, 4), (0, 6), (0, 70)], tag := 1, s := [GZ.ofZ (Z.x 9), GZ.ofZ (Z.x 10), GZ.ofZ (Z.x 11), GZ.ofZ (Z.x 12), GZ.ofZ (Z.x 13), GZ.ofZ (Z.x 14), GZ.ofZ (Z.x 15), GZ.ofZ (Z.x 16), GZ.ofZ (Z.x 17)] }]
theorem calmRound_eq : (calmRound).map (List.map normVc) = some calmRoundZ := by kernel_rfl
noncomputable def calmEndZ : List Vz := [{ cs := [(BZ.eq (Z.x 17) (((Z.x 8).sub (Z.n 1)).md (Z.n 64)), true), (BZ.eq (Z.x 16) (Z.n 0), true), (BZ.eq (Z.x 15) (Z.n 0), true), (BZ.eq (Z.x 14) (Z.n 0), true), (BZ.lt (Z.x 8) (Z.n 1), false), (BZ.lt ((Z.n 64).sub (Z.x 13)) (Z.n 1), true)], rng := [(0, 4294967295), (0, 255), (0, 255), (0, 255), (0, 255), (0, 255), (0, 255), (0, 255), (1, 255), (0, 255), (0, 5), (-1, 4), (0, 6), (0, 70), (0, 0), (0, 0), (0, 0), (0, 70)], tag := 9, s := [GZ.ofB (BZ.lit true)] }, { cs := [(BZ.eq (Z.x 17) (((Z.x 8).sub (Z.n 1)).md (Z.n 64)), false), (BZ.eq (Z.x 16) (Z.n 0), true), (BZ.eq (Z.x 15) (Z.n 0), true), (BZ.eq (Z.x 14) (Z.n 0), true), (BZ.lt (Z.x 8) (Z.n 1), false), (BZ.lt ((Z.n 64).sub (Z.x 13)) (Z.n 1), true)], rng := [(0, 4294967295), (0, 255), (0, 255), (0, 255), (0, 255), (0, 255), (0, 255), (0, 255), (1, 255), (0, 255), (0, 5), (-1, 4), (0, 6), (0, 70), (0, 0), (0, 0), (0, 0), (0, 70)], tag := 9, s := [GZ.ofB (BZ.lit false)] }, { cs := [(BZ.eq (Z.x 16) (Z.n 0), false), (BZ.eq (Z.x 15) (Z.n 0), true), (BZ.eq (Z.x 14) (Z.n 0), true), (BZ.lt (Z.x 8) (Z.n 1), false), (BZ.lt ((Z.n 64).sub (Z.x 13)) (Z.n 1), true)], rng := [(0, 4294967295), (0, 255), (0, 255), (0, 255), (0, 255), (0, 255), (0, 255), (0, 255), (1, 255), (0, 255), (0, 5), (-1, 4), (0, 6), (0, 70), (0, 0), (0, 0), (1, 6), (0, 70)], tag := 9, s := [GZ.ofB (BZ.lit false)] }, { cs := [(BZ.eq (Z.x 15) (Z.n 0), false), (BZ.eq (Z.x 14) (Z.n 0), true), (BZ.lt (Z.x 8) (Z.n 1), false), (BZ.lt ((Z.n 64).sub (Z.x 13)) (Z.n 1), true)], rng := [(0, 4294967295), (0, 255), (0, 255), (0, 255), (0, 255), (0, 255), (0, 255), (0, 255), (1, 255), (0, 255), (0, 5), (-1, 4), (0, 6), (0, 70), (0, 0), (-1, 4), (0, 6), (0, 70)], tag := 9, s := [GZ.ofB (BZ.lit false)] }, { cs := [(BZ.eq (Z.x 14) (Z.n 0), false), (BZ.lt (Z.x 8) (Z.n 1), false), (BZ.lt ((Z.n 64).sub (Z.x 13)) (Z.n 1), true)], rng := [(0, 4294967295), (0, 255), (0, 255), (0, 255), (0, 255), (0, 255), (0, 255), (0, 255), (1, 255), (0, 255), (0, 5), (-1, 4), (0, 6), (0, 70), (1, 5), (-1, 4), (0, 6), (0, 70)], tag := 9, s := [GZ.ofB (BZ.lit false)] }, { cs := [(BZ.eq (Z.x 17) ((Z.x 13).add (Z.x 8)), true), (BZ.eq (Z.x 16) ((Z.x 12).sub (Z.x 8)), true), (BZ.eq (Z.x 15) (Z.x 11), true), (BZ.eq (Z.x 14) (Z.x 10), true), (BZ.lt (Z.x 8) (Z.n 1), true), (BZ.lt ((Z.n 64).sub (Z.x 13)) (Z.n 1), true)], rng := [(0, 4294967295), (0, 255), (0, 255), (0, 255), (0, 255), (0, 255), (0, 255), (0, 255), (0, 0), (0, 255), (0, 5), (-1, 4), (0, 6), (0, 70), (0, 5), (-1, 4), (0, 6), (0, 70)], tag := 9, s := [GZ.ofB (BZ.lit true)] }, { cs := [(BZ.eq (Z.x 17) ((Z.x 13).add (Z.x 8)), false), (BZ.eq (Z.x 16) ((Z.x 12).sub (Z.x 8)), true), (BZ.eq (Z.x 15) (Z.x 11), true), (BZ.eq (Z.x 14) (Z.x 10), true), (BZ.lt (Z.x 8) (Z.n 1), true), (BZ.lt ((Z.n 64).sub (Z.x 13)) (Z.n 1), true)], rng := [(0, 4294967295), (0, 255), (0, 255), (0, 255), (0, 255), (0, 255), (0, 255), (0, 255), (0, 0), (0, 255), (0, 5), (-1, 4), (0, 6), (0, 70), (0, 5), (-1, 4), (0, 6), (0, 70)], tag := 9, s := [GZ.ofB (BZ.lit false)] }, { cs := [(BZ.eq (Z.x 16) ((Z.x 12).sub (Z.x 8)), false), (BZ.eq (Z.x 15) (Z.x 11), true), (BZ.eq (Z.x 14) (Z.x 10), true), (BZ.lt (Z.x 8) (Z.n 1), true), (BZ.lt ((Z.n 64).sub (Z.x 13)) (Z.n 1), true)], rng := [(0, 4294967295), (0, 255), (0, 255), (0, 255), (0, 255), (0, 255), (0, 255), (0, 255), (0, 0), (0, 255), (0, 5), (-1, 4), (0, 6), (0, 70), (0, 5), (-1, 4), (0, 6), (0, 70)], tag := 9, s := [GZ.ofB (BZ.lit false)] }, { cs := [(BZ.eq (Z.x 15) (Z.x 11), false), (BZ.eq (Z.x 14) (Z.x 10), true), (BZ.lt (Z.x 8) (Z.n 1), true), (BZ.lt ((Z.n 64).sub (Z.x 13)) (Z.n 1), true)], rng := [(0, 4294967295), (0, 255), (0, 255), (0, 255), (0, 255), (0, 255), (0, 255), (0, 255), (0, 0), (0, 255), (0, 5), (-1, 4), (0, 6), (0, 70), (0, 5), (-1, 4), (0, 6), (0, 70)], tag := 9, s := [GZ.ofB (BZ.lit false)] }, { cs := [(BZ.eq (Z.x 14) (Z.x 10), false), (BZ.lt (Z.x 8) (Z.n 1), true), (BZ.lt ((Z.n 64).sub (Z.x 13)) (Z.n 1), true)], rng := [(0, 4294967295), (0, 255), (0, 255), (0, 255), (0, 255), (0, 255), (0, 255), (0, 255), (0, 0), (0, 255), (0, 5), (-1, 4), (0, 6), (0, 70), (0, 5), (-1, 4), (0, 6), (0, 70)], tag := 9, s := [GZ.ofB (BZ.lit false)] }, { cs := [(BZ.eq (Z.x 17) (Z.e (E.bin BinOp.rem IntKind.i64 (E.bin BinOp.sub IntKind.i64 (E.x 8) (E.bin BinOp.sub IntKind.i64 (E.n 64) (E.x 13))) (E.n 64))), true), (BZ.eq (Z.x 16) (Z.n 0), true), (BZ.eq (Z.x 15) (Z.n 0), true), (BZ.eq (Z.x 14) (Z.n 0), true), (BZ.lt (Z.x 8) ((Z.n 64).sub (Z.x 13)), false), (BZ.lt ((Z.n 64).sub (Z.x 13)) (Z.n 1), false)], rng := [(0, 4294967295), (0, 255), (0, 255), (0, 255), (0, 255), (0, 255), (0, 255), (0, 255), (0, 255), (0, 255), (0, 5), (-1, 4), (0, 6), (0, 70), (0, 0), (0, 0), (0, 0), (0, 70)], tag := 9, s := [GZ.ofB (BZ.lit true)] }, { cs := [(BZ.eq (Z.x 17) (Z.e (E.bin BinOp.rem IntKind.i64 (E.bin BinOp.sub IntKind.i64 (E.x 8) (E.bin BinOp.sub IntKind.i64 (E.n 64) (E.x 13))) (E.n 64))), false), (BZ.eq (Z.x 16) (Z.n 0), true), (BZ.eq (Z.x 15) (Z.n 0), true), (BZ.eq (Z.x 14) (Z.n 0), true), (BZ.lt (Z.x 8) ((Z.n 64).sub (Z.x 13)), false), (BZ.lt ((Z.n 64).sub (Z.x 13)) (Z.n 1), false)], rng := [(0, 4294967295), (0, 255), (0, 255), (0, 255), (0, 255), (0, 255), (0, 255), (0, 255), (0, 255), (0, 255), (0, 5), (-1, 4), (0, 6), (0, 70), (0, 0), (0, 0), (0, 0), (0, 70)], tag := 9, s := [GZ.ofB (BZ.lit false)] }, { cs := [(BZ.eq (Z.x 16) (Z.n 0), false), (BZ.eq (Z.x 15) (Z.n 0), true), (BZ.eq (Z.x 14) (Z.n 0), true), (BZ.lt (Z.x 8) ((Z.n 64).sub (Z.x 13)), false), (BZ.lt ((Z.n 64).sub (Z.x 13)) (Z.n 1), false)], rng := [(0, 4294967295), (0, 255), (0, 255), (0, 255), (0, 255), (0, 255), (0, 255), (0, 255), (0, 255), (0, 255), (0, 5), (-1, 4), (0, 6), (0, 70), (0, 0), (0, 0), (1, 6), (0, 70)], tag := 9, s := [GZ.ofB (BZ.lit false)] }, { cs := [(BZ.eq (Z.x 15) (Z.n 0), false), (BZ.eq (Z.x 14) (Z.n 0), true), (BZ.lt (Z.x 8) ((Z.n 64).sub (Z.x 13)), false), (BZ.lt ((Z.n 64).sub (Z.x 13)) (Z.n 1), false)], rng := [(0, 4294967295), (0, 255), (0, 255), (0, 255), (0, 255), (0, 255), (0, 255), (0, 255), (0, 255), (0, 255), (0, 5), (-1, 4), (0, 6), (0, 70), (0, 0), (-1, 4), (0, 6), (0, 70)], tag := 9, s := [GZ.ofB (BZ.lit false)] }, { cs := [(BZ.eq (Z.x 14) (Z.n 0), false), (BZ.lt (Z.x 8) ((Z.n 64).sub (Z.x 13)), false), (BZ.lt ((Z.n 64).sub (Z.x 13)) (Z.n 1), false)], rng := [(0, 4294967295), (0, 255), (0, 255), (0, 255), (0, 255), (0, 255), (0, 255), (0, 255), (0, 255), (0, 255), (0, 5), (-1, 4), (0, 6), (0, 70), (1, 5), (-1, 4), (0, 6), (0, 70)], tag := 9, s := [GZ.ofB (BZ.lit false)] }, { cs := [(BZ.eq (Z.x 17) ((Z.x 13).add (Z.x 8)), true), (BZ.eq (Z.x 16) (Z.n 0), true), (BZ.eq (Z.x 15) (Z.x 11), true), (BZ.eq (Z.x 14) (Z.x 10), true), (BZ.lt ((Z.x 12).sub (Z.x 8)) (Z.n 0), true), (BZ.lt (Z.x 8) ((Z.n 64).sub (Z.x 13)), true), (BZ.lt ((Z.n 64).sub (Z.x 13)) (Z.n 1), false)], rng := [(0, 4294967295), (0, 255), (0, 255), (0, 255), (0, 255), (0, 255), (0, 255), (0, 255), (0, 255), (0, 255), (0, 5), (-1, 4), (0, 6), (0, 70), (0, 5), (-1, 4), (0, 0), (0, 70)], tag := 9, s := [GZ.ofB (BZ.lit true)] }, { cs := [(BZ.eq (Z.x 17) ((Z.x 13).add (Z.x 8)), false), (BZ.eq (Z.x 16) (Z.n 0), true), (BZ.eq (Z.x 15) (Z.x 11), true), (BZ.eq (Z.x 14) (Z.x 10), true), (BZ.lt ((Z.x 12).sub (Z.x 8)) (Z.n 0), true), (BZ.lt (Z.x 8) ((Z.n 64).sub (Z.x 13)), true), (BZ.lt ((Z.n 64).sub (Z.x 13)) (Z.n 1), false)], rng := [(0, 4294967295), (0, 255), (0, 255), (0, 255), (0, 255), (0, 255), (0, 255), (0, 255), (0, 255), (0, 255), (0, 5), (-1, 4), (0, 6), (0, 70), (0, 5), (-1, 4), (0, 0), (0, 70)], tag := 9, s := [GZ.ofB (BZ.lit false)] }, { cs := [(BZ.eq (Z.x 16) (Z.n 0), false), (BZ.eq (Z.x 15) (Z.x 11), true), (BZ.eq (Z.x 14) (Z.x 10), true), (BZ.lt ((Z.x 12).sub (Z.x 8)) (Z.n 0), true), (BZ.lt (Z.x 8) ((Z.n 64).sub (Z.x 13)), true), (BZ.lt ((Z.n 64).sub (Z.x 13)) (Z.n 1), false)], rng := [(0, 4294967295), (0, 255), (0, 255), (0, 255), (0, 255), (0, 255), (0, 255), (0, 255), (0, 255), (0, 255), (0, 5), (-1, 4), (0, 6), (0, 70), (0, 5), (-1, 4), (1, 6), (0, 70)], tag := 9, s := [GZ.ofB (BZ.lit false)] }, { cs := [(BZ.eq (Z.x 15) (Z.x 11), false), (BZ.eq (Z.x 14) (Z.x 10), true), (BZ.lt ((Z.x 12).sub (Z.x 8)) (Z.n 0), true), (BZ.lt (Z.x 8) ((Z.n 64).sub (Z.x 13)), true), (BZ.lt ((Z.n 64).sub (Z.x 13)) (Z.n 1), false)], rng := [(0, 4294967295), (0, 255), (0, 255), (0, 255), (0, 255), (0, 255), (0, 255), (0, 255), (0, 255), (0, 255), (0, 5), (-1, 4), (0, 6), (0, 70), (0, 5), (-1, 4), (0, 6), (0, 70)], tag := 9, s := [GZ.ofB (BZ.lit false)] }, { cs := [(BZ.eq (Z.x 14) (Z.x 10), false), (BZ.lt ((Z.x 12).sub (Z.x 8)) (Z.n 0), true), (BZ.lt (Z.x 8) ((Z.n 64).sub (Z.x 13)), true), (BZ.lt ((Z.n 64).sub (Z.x 13)) (Z.n 1), false)], rng := [(0, 4294967295), (0, 255), (0, 255), (0, 255), (0, 255), (0, 255), (0, 255), (0, 255), (0, 255), (0, 255), (0, 5), (-1, 4), (0, 6), (0, 70), (0, 5), (-1, 4), (0, 6), (0, 70)], tag := 9, s := [GZ.ofB (BZ.lit false)] }, { cs := [(BZ.eq (Z.x 17) ((Z.x 13).add (Z.x 8)), true), (BZ.eq (Z.x 16) ((Z.x 12).sub (Z.x 8)), true), (BZ.eq (Z.x 15) (Z.x 11), true), (BZ.eq (Z.x 14) (Z.x 10), true), (BZ.lt ((Z.x 12).sub (Z.x 8)) (Z.n 0), false), (BZ.lt (Z.x 8) ((Z.n 64).sub (Z.x 13)), true), (BZ.lt ((Z.n 64).sub (Z.x 13)) (Z.n 1), false)], rng := [(0, 4294967295), (0, 255), (0, 255), (0, 255), (0, 255), (0, 255), (0, 255), (0, 255), (0, 255), (0, 255), (0, 5), (-1, 4), (0, 6), (0, 70), (0, 5), (-1, 4), (0, 6), (0, 70)], tag := 9, s := [GZ.ofB (BZ.lit true)] }, { cs := [(BZ.eq (Z.x 17) ((Z.x 13).add (Z.x 8)), false), (BZ.eq (Z.x 16) ((Z.x 12).sub (Z.x 8)), true), (BZ.eq (Z.x 15) (Z.x 11), true), (BZ.eq (Z.x 14) (Z.x 10), true), (BZ.lt ((Z.x 12).sub (Z.x 8)) (Z.n 0), false), (BZ.lt (Z.x 8) ((Z.n 64).sub (Z.x 13)), true), (BZ.lt ((Z.n 64).sub (Z.x 13)) (Z.n 1), false)], rng := [(0, 4294967295), (0, 255), (0, 255), (0, 255), (0, 255), (0, 255), (0, 255), (0, 255), (0, 255), (0, 255), (0, 5), (-1, 4), (0, 6), (0, 70), (0, 5), (-1, 4), (0, 6), (0, 70)], tag := 9, s := [GZ.ofB (BZ.lit false)] }, { cs := [(BZ.eq (Z.x 16) ((Z.x 12).sub (Z.x 8)), false), (BZ.eq (Z.x 15) (Z.x 11), true), (BZ.eq (Z.x 14) (Z.x 10), true), (BZ.lt ((Z.x 12).sub (Z.x 8)) (Z.n 0), false), (BZ.lt (Z.x 8) ((Z.n 64).sub (Z.x 13)), true), (BZ.lt ((Z.n 64).sub (Z.x 13)) (Z.n 1), false)], rng := [(0, 4294967295), (0, 255), (0, 255), (0, 255), (0, 255), (0, 255), (0, 255), (0, 255), (0, 255), (0, 255), (0, 5), (-1, 4), (0, 6), (0, 70), (0, 5), (-1, 4), (0, 6), (0, 70)], tag := 9, s := [GZ.ofB (BZ.lit false)] }, { cs := [(BZ.eq (Z.x 15) (Z.x 11), false), (BZ.eq (Z.x 14) (Z.x 10), true), (BZ.lt ((Z.x 12).sub (Z.x 8)) (Z.n 0), false), (BZ.lt (Z.x 8) ((Z.n 64).sub (Z.x 13)), true), (BZ.lt ((Z.n 64).sub (Z.x 13)) (Z.n 1), false)], rng := [(0, 4294967295), (0, 255), (0, 255), (0, 255), (0, 255), (0, 255), (0, 255), (0, 255), (0, 255), (0, 255), (0, 5), (-1, 4), (0, 6), (0, 70), (0, 5), (-1, 4), (0, 6), (0, 70)], tag := 9, s := [GZ.ofB (BZ.lit false)] }, { cs := [(BZ.eq (Z.x 14) (Z.x 10), false), (BZ.lt ((Z.x 12).sub (Z.x 8)) (Z.n 0), false), (BZ.lt (Z.x 8) ((Z.n 64).sub (Z.x 13)), true), (BZ.lt ((Z.n 64).sub (Z.x 13)) (Z.n 1), false)], rng := [(0, 4294967295), (0, 255), (0, 255), (0, 255), (0, 255), (0, 255), (0, 255), (0, 255), (0, 255), (0, 255), (0, 5), (-1, 4), (0, 6), (0, 70), (0, 5), (-1, 4), (0, 6), (0, 70)], tag := 9, s := [GZ.ofB (BZ.lit false)] }]
theorem calmEnd_eq : (calmEnd).map (List.map normVc) = some calmEndZ := by kernel_rfl

/-- how many frames are left until all is forgotten -/
def left (ρ : Nat → Int) : Int := max (64 - ρ 13) 1

/-- at the head of the loop -/
def CalmJ (ρ : Nat → Int) : Prop :=
  0 ≤ ρ 9 ∧ ρ 9 ≤ ρ 8 ∧ ((ρ 9 < left ρ ∧ ρ 14 = ρ 10 ∧ ρ 15 = ρ 11 ∧ ρ 16 = max (ρ 12 - ρ 9) 0 ∧ ρ 17 = ρ 13 + ρ 9) ∨ (left ρ ≤ ρ 9 ∧ ρ 14 = 0 ∧ ρ 15 = 0 ∧ ρ 16 = 0 ∧ ρ 17 = (ρ 9 - left ρ) % 64))
def CalmX (ρ : Nat → Int) : Prop := CalmJ ρ ∧ ρ 8 ≤ ρ 9
def calmM (ρ : Nat → Int) : Nat := (ρ 8 - ρ 9).toNat

theorem calmHead_ok : ∀ v ∈ calmHeadZ, ∀ ρ, True → PcR ρ ⟨[], argsRng calmShapes⟩ → factsZ ρ v.cs → rngP ρ 0 v.rng → OwesZ 9 calmRng CalmJ CalmJ ρ v := by
  simp only [calmHeadZ, List.forall_mem_cons]
  repeat' apply And.intro
  all_goals first
    | (intro v hv; simp at hv; done)
    | (intro ρ _ _ hf hr
       simp only [factsZ, BZ.prop, Z.den, rngP, Nat.reduceAdd, and_true] at hf hr
       intro ρ' _ h2 h3 _
       simp only [sameTo, newZ, GZ.is, Z.den, Nat.reduceAdd, and_true] at h2 h3
       simp only [calmRng, rngP, Nat.reduceAdd, and_true, CalmJ, left]
       omega)

theorem calmRound_ok : ∀ v ∈ calmRoundZ, ∀ ρ, CalmJ ρ → PcR ρ calmPc → factsZ ρ v.cs → rngP ρ 0 v.rng → OwesZ 9 calmRng (fun ρ' => CalmJ ρ' ∧ calmM ρ' < calmM ρ) CalmX ρ v := by
  simp only [calmRoundZ, List.forall_mem_cons]
  repeat' apply And.intro
  all_goals first
    | (intro v hv; simp at hv; done)
    | (intro ρ hJ _ hf hr
       simp only [factsZ, BZ.prop, Z.den, rngP, Nat.reduceAdd, and_true] at hf hr
       simp only [CalmJ, left] at hJ
       intro ρ' _ h2 h3 _
       simp only [sameTo, newZ, GZ.is, Z.den, Nat.reduceAdd, and_true] at h2 h3
       simp only [calmRng, rngP, Nat.reduceAdd, and_true, CalmX, CalmJ, left, calmM]
       omega)

theorem calmEnd_ok : ∀ v ∈ calmEndZ, ∀ ρ, CalmX ρ → PcR ρ calmPc → factsZ ρ v.cs → rngP ρ 0 v.rng → OwesZ 9 calmRng CalmJ CalmJ ρ v := by
  simp only [calmEndZ, List.forall_mem_cons]
  repeat' apply And.intro
  all_goals first
    | (intro v hv; simp at hv; done)
    | (intro ρ _ _ _ _ g hg
       simp only [List.mem_singleton] at hg
       subst hg
       exact .inl ⟨rfl, rfl⟩)
    | (intro ρ hJ _ hf hr
       simp only [factsZ, BZ.prop, Z.den, rngP, Nat.reduceAdd, and_true] at hf hr
       simp only [CalmX, CalmJ, left] at hJ
       exfalso
       first
         | omega
         | (simp only [e_rem, e_sub64, e_n, e_x] at hf
            split at hf <;> omega))

theorem calm_place : place calmPath calmCode = .loop calmLoop := by kernel_rfl
theorem calm_id : cId (place [.r, .r, .r, .r, .r, .r, .r, .r, .l, .r] calmCode) = 0 := by kernel_rfl
theorem calm_slots : slots Tryd.f6.ntmps (argsV calmShapes 0) = 66 := by kernel_rfl

theorem calm_calls {H : Type} {enc : TypeId × Value → H} {W : World} {base : Nat} {args : Array Value} {ds : List (DataW H)} {ps : List MemPlace} (hval : ∀ (j : Nat) t v, Tryd.f6.params[j]? = some t → args[j]? = some v → Value.okWide Tryd.prog W .any base t v)
    (hA : DataW.TrodAll enc Tryd.prog W 0 (fun _ => true) true Tryd.f6.params.toList args.toList ds ps) (hL : laidMetH Tryd.prog laid W) : Calls Tryd.prog 6 args W (LawEnd W) := by
  refine law_code (g := glob) calm_shapes Tryd.func6 calm_body hval hA (fun ρ => laid_glob hL ρ) fun a w h0 => ?_
  rw [calm_slots] at h0
  obtain ⟨_, eh, oh⟩ := owes_all (J := fun _ => CalmJ) (Jx := fun _ => CalmJ) calmHead_eq calmHead_ok
  refine head_vcs (p0 := calmPc) plain.mixed cf_ok (by kernel_rfl) (by kernel_rfl) eh oh (fun a w h1 => ?_) h0
  show (place calmPath calmCode).wp Tryd.prog (Exit.inBlock (cId (place [.r, .r, .r, .r, .r, .r, .r, .r, .l, .r] calmCode)) (Exit.then (calmRest.wp Tryd.prog _) _)) a w
  rw [calm_place, calm_id]
  obtain ⟨_, er, orr⟩ := owes_all (J := fun ρ ρ' => CalmJ ρ' ∧ calmM ρ' < calmM ρ) (Jx := fun _ => CalmX) calmRound_eq calmRound_ok
  refine loop_vcs (fn := Tryd.f6) (Jx := CalmX) plain.mixed cf_ok (by kernel_rfl) (by kernel_rfl) calmM er orr (fun a w hx => ?_) (fun a w h => h) h1
  obtain ⟨_, ee, oe⟩ := owes_all (J := fun _ => CalmJ) (Jx := fun _ => CalmJ) calmEnd_eq calmEnd_ok
  show (if (0 : Nat) = 0 then calmRest.wp Tryd.prog (bodyPost Tryd.prog Tryd.f6 (LawEnd W)) a w else bodyPost Tryd.prog Tryd.f6 (LawEnd W) (.exit 0) a w)
  rw [if_pos rfl]
  exact end_vcs plain.mixed cf_ok (by kernel_rfl) (by kernel_rfl) ee oe hx

theorem calm_lifted (os : Os) (started : os.Started) (H : Type) (enc : TypeId × Value → H) :
    ReturnsInHanded {} Tryd.checked os 6 .any (fun w args => (Rows.recoveriesCalmSpec.pre enc Tryd.prog Tryd.f6 [] false w args ∧ laidMetH Tryd.prog laid w) ∧ sizedMet enc Tryd.prog Tryd.f6 (OpenSpec.ofChange Rows.recoveriesCalmSpec) false w args)
      (Rows.recoveriesCalmSpec.post enc Tryd.prog Tryd.f6 false true false false) := by
  refine law_lifted_laid (C := Tryd.checked) (fn := Tryd.f6) (tb := 4) own started (by kernel_rfl) Tryd.func6 laidOut (by kernel_rfl) (by kernel_rfl) (by kernel_rfl) rfl ?_
    (ChangeSpec.witness_shaped (enc := enc) (C := Tryd.checked) (os := os) (X := fun w _ => laidMetH Tryd.prog laid w) false (World.doorLaid Tryd.prog 400 os)
      #[.agg #[.int .u32 0, .int .u8 0, .int .u8 0, .int .u8 0, .int .u8 0, .int .u8 0, .int .u8 0, .int .u8 0], .int .u8 0] 8 rfl (World.shaped_of_RefB (by kernel_rfl) (by kernel_rfl)) (by kernel_rfl) (by kernel_rfl) (by kernel_rfl)
      (laidMetH_of_parts3 (fuel := 8) (laidMet_of_run' 8 (by kernel_rfl) (by kernel_rfl)) (by kernel_rfl) (by kernel_rfl))) ?_
  · intro ds hd
    match ds, hd with
    | [_, _], _ => rfl
  · intro W base args ds ps hval hA _ hL
    exact calm_calls hval hA hL

theorem calm_holds : Rows.RecoveriesCalmSaid :=
  OpenClaim.holds_of_wide 6 Tryd.f6 rfl rfl rfl rfl rfl rfl rfl ⟨rfl, rfl, rfl, rfl, rfl⟩ rfl rfl rfl rfl rfl (by kernel_rfl) Tryd.func6 (by kernel_rfl)
    (of_decide_eq_true (by kernel_rfl)) (by unfold Func.isWrapper; first | (rw [if_pos (by decide +kernel)]; kernel_rfl) | (rw [if_neg (by decide +kernel)]; exact ⟨rfl, rfl⟩))
    (fun os started H enc _ => calm_lifted os started H enc)

theorem calm_card : Rows.RecoveriesCalmCardSaid :=
  Claim7.holds_tied_plain_at .later [] [.data] true (true, "80b4cedac525617e33e55bb46d32322e56a10a64844434ad8a43f47857804ffd") false
    calm_holds (fun _ h => by cases h) (by kernel_rfl) (fun _ h => by cases h) recoveriesCalm_row_tie rfl ⟨rfl, rfl⟩ (by kernel_rfl) rfl
    (fun f fn hf hfn => by
      obtain rfl : f = 6 := Option.some.inj ((show Tryd.prog.funcNamed Rows.recoveriesCalmRow.func = some 6 by kernel_rfl).symm.trans hf) |>.symm
      obtain rfl : fn = Tryd.f6 := (Option.some.inj (Tryd.func6.symm.trans hfn)).symm
      exact ⟨by kernel_rfl, fun j t ht => by
        have hm : t ∈ Tryd.f6.params.toList := by simpa using Array.mem_of_getElem? ht
        have hall : (Tryd.f6.params.toList.all fun u => !Tryd.prog.wantsStandIn u) = true := by kernel_rfl
        exact (show Tryd.prog.wantsStandIn t = false by simpa using List.all_eq_true.1 hall t hm)⟩)
    (by kernel_rfl)
#print axioms calm_card

end Go.Proofs.YtcipfcbaclfnhaaDoor
