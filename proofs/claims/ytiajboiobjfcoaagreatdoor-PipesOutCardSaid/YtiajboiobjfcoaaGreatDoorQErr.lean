/-
  What is proved here: a pipe's fields; ranges.
  Conditions: the fields lie in their types' ranges.
  What is defined here: when strange is to say so, as a formula over the fields.
  Conditions: none (definitions only).
  What is proved here: runs of strange and great.
  Conditions: none (runs of the evaluator).
-/
import Derived.Test.YtiajboiobjfcoaaGreatDoorQCon
import Derived.Test.YtiajboiobjfcoaaGreatDoorChecked
namespace Go.Proofs.YtiajboiobjfcoaaGreatDoor
open Go.Sy Go.RowKit
set_option maxRecDepth 1000000
theorem plain : Plain Tryz.prog := .of (by kernel_rfl) (by kernel_rfl)
def pipeV (ad en : Int) (inn : Bool) (k mx per sp hu po : Int) (tg ha : Bool) : Value :=
 .agg #[.int .u8 ad, .int .u8 en, .bool inn, .int .u8 k, .int .i64 mx, .int .i64 per, .int .u8 sp, .int .u8 hu, .int .u8 po, .bool tg, .bool ha]
def PipeR (ad en k mx per sp hu po : Int) : Prop :=
 (0 ≤ ad ∧ ad ≤ 255) ∧ (0 ≤ en ∧ en ≤ 255) ∧ (0 ≤ k ∧ k ≤ 255) ∧ (-9223372036854775808 ≤ mx ∧ mx ≤ 9223372036854775807) ∧ (-9223372036854775808 ≤ per ∧ per ≤ 9223372036854775807) ∧ (0 ≤ sp ∧ sp ≤ 255) ∧ (0 ≤ hu ∧ hu ≤ 255) ∧ (0 ≤ po ∧ po ≤ 255)
def pLf : List Lf := [.int .u8, .int .u8, .bool, .int .u8, .int .i64, .int .i64, .int .u8, .int .u8, .int .u8, .bool, .bool]
noncomputable def pArg : V := .agg (cellsV pLf 0)
def b2i (b : Bool) : Int := if b then 1 else 0
theorem set_get : ∀ {rng : List (Int × Int)} {i j : Nat} {f : Int × Int → Int × Int}, (setRng rng i f)[j]? = (rng[j]?).map fun r => if i = j then f r else r
 | [], i, j, f => by simp [setRng]
 | x :: l, 0, 0, f => by simp [setRng]
 | x :: l, 0, j + 1, f => by simp [setRng]
 | x :: l, i + 1, 0, f => by simp [setRng]
 | x :: l, i + 1, j + 1, f => by
  have := set_get (rng := l) (i := i) (j := j) (f := f)
  simpa [setRng] using this
theorem set_R {ρ : Nat → Int} {rng : List (Int × Int)} {k : Nat} {a b : Int} (hr : ∀ i lo hi, rng[i]? = some (lo, hi) → lo ≤ ρ i ∧ ρ i ≤ hi) (h : a ≤ ρ k ∧ ρ k ≤ b) :
  ∀ i lo hi, (setRng rng k fun _ => (a, b))[i]? = some (lo, hi) → lo ≤ ρ i ∧ ρ i ≤ hi := by
 intro i lo hi hi'
 rw [set_get] at hi'
 cases hg : rng[i]? with
 | none => rw [hg] at hi'; simp at hi'
 | some r =>
  rw [hg] at hi'
  by_cases e : k = i
  ·subst e; simp at hi'; omega
  ·simp [e] at hi'
   exact hr i lo hi (by rw [hg, hi'])
end Go.Proofs.YtiajboiobjfcoaaGreatDoor

namespace Go.Proofs.YtiajboiobjfcoaaGreatDoor
open Go.Sy Go.RowKit
set_option maxRecDepth 1000000
noncomputable def jArg : V := .agg [.int .u8 (.x 11), .int .u8 (.x 12), .int .u16 (.x 13), .int .u16 (.x 14), .int .u16 (.x 15), .sarr 4096 1 (.x 16), .int .i64 (.x 17), .bool (.eq (.x 18) (.n 1)), .sarr 4097 1 (.x 19), .int .i64 (.x 20)]
def jLf : List Lf := [.int .u8, .int .u8, .int .u16, .int .u16, .int .u16]
noncomputable def jMem : Mem := ⟨.nil, 4098, .nil, 0⟩
def fC : BF := .at (.eq (.x 3) (.n 0))
def fI : BF := .at (.eq (.x 3) (.n 1))
def fN : BF := .at (.eq (.x 2) (.n 1))
def fStream : BF := .and (.no fC) (.no fI)
def nz (i : Nat) : BF := .no (.at (.eq (.x i) (.n 0)))
def fS : BF := .or (nz 11) (.or (nz 12) (.or (nz 13) (.or (nz 14) (nz 15))))
def fD : BF := .at (.lt (.n 0) (.x 16))
def fP : BF := .at (.lt (.n 0) (.x 19))
def fT : BF := .or (.and (.no (.at (.lt (.x 11) (.n 128)))) (nz 16)) (.and (.at (.lt (.x 11) (.n 128))) (.no (.at (.eq (.x 16) (.x 15)))))
def fOut : BF := .and fStream (.no fN)
def fIn : BF := .and fStream fN
def fStr : BF :=
 .or (.and fS (.no fC)) (.or (.and fD (.no (.or fC fOut))) (.or (.and (nz 17) (.no fIn)) (.or (.and (.at (.eq (.x 18) (.n 1))) (.no fOut)) (.or (.and fP (.no (.and fI (.no fN)))) (.or (.and (nz 20) (.no (.and fI fN)))
  (.or (.and (.and fI fN) (.at (.lt (.x 20) (.n 1)))) (.or (.and (.and fI (.no fN)) (.no fP)) (.or (.at (.lt (.x 17) (.n 0))) (.or (.at (.lt (.x 20) (.n 0))) (.and fC fT))))))))))
end Go.Proofs.YtiajboiobjfcoaaGreatDoor

namespace Go.Proofs.YtiajboiobjfcoaaGreatDoor
open Go.Sy Go.RowKit
set_option maxRecDepth 1000000
noncomputable def ePc (cs : List (B × Bool)) (k n : Int × Int) : Pc := ⟨cs, setRng (setRng (pLf.map Lf.rng ++ jLf.map Lf.rng ++ [(0, 300), (-9223372036854775808, 9223372036854775807), (0, 1), (0, 9223372036854775807), (-9223372036854775808, 9223372036854775807), (0, 1)]) 3 fun _ => k) 19 fun _ => n⟩
def fLim : BF := .or (.at (.lt (.n 65536) (.x 16))) (.or (.at (.lt (.n 65536) (.x 17))) (.or (.at (.lt (.n 256) (.x 19))) (.at (.lt (.n 256) (.x 20)))))
theorem s_run : allChk (forQ fStr) (evFn Tryz.prog kw0 10 20 22 [jArg, pArg] jMem (ePc [] (0, 255) (0, 9223372036854775807))) = true := by kernel_rfl
theorem g_run0 : allChk (forQ fLim) (evFn Tryz.prog kw0 10 20 23 [jArg, pArg] jMem (ePc [] (0, 255) (0, 0))) = true := by kernel_rfl
end Go.Proofs.YtiajboiobjfcoaaGreatDoor
