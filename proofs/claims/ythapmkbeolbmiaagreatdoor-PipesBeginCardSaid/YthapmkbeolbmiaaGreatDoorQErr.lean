/-
  What is proved here: runs of the law's begun, and of pipes.Begin where there is an error.
  Conditions: none (runs of the evaluator).
-/
import Derived.Test.YthapmkbeolbmiaaGreatDoorQStr
namespace Go.Proofs.YthapmkbeolbmiaaGreatDoor
open Go.Sy Go.RowKit

set_option maxRecDepth 1000000

/-- whether a pipe is valid: a variable of its own -/
def okB : B := .eq (.x 21) (.n 1)
noncomputable def kwE : Kw := kwArgs 22 [pArg] (.bool okB) (kwArgs 21 [pArg] (.int .i64 (.bin .sub .i64 (.n 1) (.x 21))) kw0)
noncomputable def ePc (cs : List (B × Bool)) (k n : Int × Int) : Pc := ⟨cs, setRng (setRng (pLf.map Lf.rng ++ jLf.map Lf.rng ++ [(0, 100), (-9223372036854775808, 9223372036854775807), (0, 1), (0, 9223372036854775807), (-9223372036854775808, 9223372036854775807), (0, 1)]) 3 fun _ => k) 19 fun _ => n⟩

def fHa : BF := .at (.eq (.x 10) (.n 1))
def fOkv : BF := .at okB
/-- greater than a pipe accepts -/
def fLim : BF := .or (.at (.lt (.n 65536) (.x 16))) (.or (.at (.lt (.n 65536) (.x 17))) (.or (.at (.lt (.n 256) (.x 19))) (.at (.lt (.n 256) (.x 20)))))
/-- the errors' conditions -/
def fE1 : BF := .or (.no fOkv) (.and (.no fHa) fStr)
def fE6 : BF := .and fOkv fHa
def fE3 : BF := .and fOkv (.and (.no fHa) (.and (.no fStr) fLim))
def fE0 : BF := .and fOkv (.and (.no fHa) (.and (.no fStr) (.no fLim)))
noncomputable def chkE (r : Rs V) : Bool := orB (andB (litI 1 r.v) (fE1.is true r.p)) (orB (andB (litI 6 r.v) (fE6.is true r.p)) (orB (andB (litI 3 r.v) (fE3.is true r.p)) (andB (litI 0 r.v) (fE0.is true r.p))))

theorem s_run : allChk (forQ fStr) (evFn Tryz.prog kw0 10 20 60 [jArg, pArg] jMem (ePc [] (0, 255) (0, 9223372036854775807))) = true := by kernel_rfl
/-- begun without packets -/
theorem e_run0 : allChk chkE (evFn Tryz.prog kwE 10 20 24 [pArg, jArg] jMem (ePc [] (0, 255) (0, 0))) = true := by kernel_rfl
/-- begun with packets, but for a pipe that has none -/
theorem e_run1 : allChk chkE (evFn Tryz.prog kwE 10 20 24 [pArg, jArg] jMem (ePc [] (0, 0) (1, 9223372036854775807))) = true := by kernel_rfl
theorem e_run2 : allChk chkE (evFn Tryz.prog kwE 10 20 24 [pArg, jArg] jMem (ePc [] (2, 255) (1, 9223372036854775807))) = true := by kernel_rfl
theorem e_run3 : allChk chkE (evFn Tryz.prog kwE 10 20 24 [pArg, jArg] jMem (ePc [(.eq (.x 2) (.n 1), true)] (1, 1) (1, 9223372036854775807))) = true := by kernel_rfl
/-- begun with packets that are sent: where the packets are not looked at -/
noncomputable def isoPc (cs : List (B × Bool)) (n : Int × Int) : Pc := ePc ((.eq (.x 2) (.n 1), false) :: cs) (1, 1) n
noncomputable def isoRun (cs : List (B × Bool)) (n : Int × Int) : Bool := allChk chkE (evFn Tryz.prog kwE 10 20 24 [pArg, jArg] jMem (isoPc cs n))
theorem i_many : isoRun [] (257, 9223372036854775807) = true := by kernel_rfl
theorem i_ok : isoRun [(okB, false)] (1, 256) = true := by kernel_rfl
theorem i_ha : isoRun [(okB, true), (.eq (.x 10) (.n 1), true)] (1, 256) = true := by kernel_rfl
theorem i_11 : isoRun [(.eq (.x 11) (.n 0), false)] (1, 256) = true := by kernel_rfl
theorem i_12 : isoRun [(.eq (.x 12) (.n 0), false)] (1, 256) = true := by kernel_rfl
theorem i_13 : isoRun [(.eq (.x 13) (.n 0), false)] (1, 256) = true := by kernel_rfl
theorem i_14 : isoRun [(.eq (.x 14) (.n 0), false)] (1, 256) = true := by kernel_rfl
theorem i_15 : isoRun [(.eq (.x 15) (.n 0), false)] (1, 256) = true := by kernel_rfl
theorem i_16 : isoRun [(.lt (.n 0) (.x 16), true)] (1, 256) = true := by kernel_rfl
theorem i_17a : isoRun [(.lt (.x 17) (.n 0), true)] (1, 256) = true := by kernel_rfl
theorem i_17b : isoRun [(.lt (.n 0) (.x 17), true)] (1, 256) = true := by kernel_rfl
theorem i_18 : isoRun [(.eq (.x 18) (.n 1), true)] (1, 256) = true := by kernel_rfl
theorem i_20a : isoRun [(.lt (.x 20) (.n 0), true)] (1, 256) = true := by kernel_rfl
theorem i_20b : isoRun [(.lt (.n 0) (.x 20), true)] (1, 256) = true := by kernel_rfl

/-- great without packets -/
theorem g_run0 : allChk (forQ fLim) (evFn Tryz.prog kw0 10 20 61 [jArg, pArg] jMem (ePc [] (0, 255) (0, 0))) = true := by kernel_rfl

/-- great with very many packets -/
theorem g_run1 : allChk (litP true) (evFn Tryz.prog kw0 10 20 61 [jArg, pArg] jMem (ePc [] (0, 255) (257, 9223372036854775807))) = true := by kernel_rfl

/-- no work -/
noncomputable def zWork : V := .agg ([.bool (.lit false), .int .u8 (.n 0), .int .u8 (.n 0), .bool (.lit false), .int .u8 (.n 0), .int .i64 (.n 0), .int .i64 (.n 0), .int .u8 (.n 0), .int .u8 (.n 0), .int .u8 (.n 0), .bool (.lit false), .bool (.lit false),
  .int .u8 (.n 0), .int .u8 (.n 0), .int .u8 (.n 0), .int .u16 (.n 0), .int .u16 (.n 0), .int .u16 (.n 0), .nilSlice, .int .i64 (.n 0), .bool (.lit false), .int .i64 (.n 0), .nilSlice, .int .i64 (.n 0), .int .i64 (.n 0),
  .bool (.lit false), .int .u8 (.n 0), .int .i64 (.n 0), .bool (.lit false), .nilSlice, .bool (.lit false), .int .i64 (.n 0), .nilSlice, .nilSlice, .int .i64 (.n 0), .int .i64 (.n 0), .bool (.lit false), .int .i64 (.n 0),
  .bool (.lit false), .int .u8 (.n 0), .int .i64 (.n 0), .nilSlice, .int .i64 (.n 0), .int .i64 (.n 0), .nilSlice, .nilSlice, .int .i64 (.n 0)])
noncomputable def zTry : V := .agg [.int .u8 (.n 0), .int .u8 (.n 0), .int .u8 (.n 0), .bool (.lit false), .bool (.lit false), .int .i64 (.n 0), .nilSlice]

/-- strange and great: variables of their own -/
noncomputable def kwS : Kw := kwArgs 60 [jArg, pArg] (.bool (.eq (.x 22) (.n 1))) kwE
noncomputable def kwF : Kw := kwArgs 61 [jArg, pArg] (.bool (.eq (.x 23) (.n 1))) kwS
noncomputable def bRun (kw : Kw) (cs : List (B × Bool)) (e : E) : Bool := allChk (fun r => eqVV r.v (.tuple [zWork, .int .i64 e])) (evFn Tryz.prog kw 10 20 25 [pArg, jArg] jMem (ePc cs (0, 255) (0, 9223372036854775807)))
theorem b_1 : bRun kwS [(okB, false)] (.bin .sub .i64 (.n 1) (.x 21)) = true := by kernel_rfl
theorem b_6 : bRun kwS [(okB, true), (.eq (.x 10) (.n 1), true)] (.n 6) = true := by kernel_rfl
theorem b_1' : bRun kwS [(okB, true), (.eq (.x 10) (.n 1), false), (.eq (.x 22) (.n 1), true)] (.n 1) = true := by kernel_rfl
theorem b_3 : bRun kwF [(okB, true), (.eq (.x 10) (.n 1), false), (.eq (.x 22) (.n 1), false), (.eq (.x 23) (.n 1), true)] (.n 3) = true := by kernel_rfl
theorem n_run : allChk (fun r => eqVV r.v (.tuple [zTry, .bool (.lit false)])) (evFn Tryz.prog kw0 10 20 26 [zWork] (mem0 []) pc0) = true := by kernel_rfl
theorem c_run : allChk (fun r => eqVV r.v (.agg (cellsV (pLf.take 9) 0 ++ [.bool (.lit false), .bool (.lit false)]))) (evFn Tryz.prog kw0 10 20 23 [pArg] (mem0 []) pPc) = true := by kernel_rfl
end Go.Proofs.YthapmkbeolbmiaaGreatDoor
