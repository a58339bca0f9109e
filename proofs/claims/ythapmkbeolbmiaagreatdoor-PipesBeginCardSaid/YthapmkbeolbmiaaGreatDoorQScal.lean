/-
  What is proved here: pipes.Check accepts exactly what the law's own valid accepts; what strange returns (out of runs of the evaluator).
  Conditions: the fields lie in their types' ranges.
-/
import Derived.Test.YthapmkbeolbmiaaGreatDoorQCon
import Derived.Test.YthapmkbeolbmiaaGreatDoorChecked
namespace Go.Proofs.YthapmkbeolbmiaaGreatDoor
open Go.Sy Go.RowKit

set_option maxRecDepth 1000000

theorem plain : Plain Tryz.prog := .of (by kernel_rfl) (by kernel_rfl)

/-- a pipe as a value -/
def pipeV (ad en : Int) (inn : Bool) (k mx per sp hu po : Int) (tg ha : Bool) : Value :=
  .agg #[.int .u8 ad, .int .u8 en, .bool inn, .int .u8 k, .int .i64 mx, .int .i64 per, .int .u8 sp, .int .u8 hu, .int .u8 po, .bool tg, .bool ha]
/-- its fields lie in their types' ranges -/
def PipeR (ad en k mx per sp hu po : Int) : Prop :=
  (0 ≤ ad ∧ ad ≤ 255) ∧ (0 ≤ en ∧ en ≤ 255) ∧ (0 ≤ k ∧ k ≤ 255) ∧ (-9223372036854775808 ≤ mx ∧ mx ≤ 9223372036854775807) ∧ (-9223372036854775808 ≤ per ∧ per ≤ 9223372036854775807) ∧ (0 ≤ sp ∧ sp ≤ 255) ∧ (0 ≤ hu ∧ hu ≤ 255) ∧ (0 ≤ po ∧ po ≤ 255)

def pLf : List Lf := [.int .u8, .int .u8, .bool, .int .u8, .int .i64, .int .i64, .int .u8, .int .u8, .int .u8, .bool, .bool]
noncomputable def pArg : V := .agg (cellsV pLf 0)
noncomputable def pPc : Pc := ⟨[], pLf.map Lf.rng⟩
def b2i (b : Bool) : Int := if b then 1 else 0
def pRho (ad en : Int) (inn : Bool) (k mx per sp hu po : Int) (tg ha : Bool) : Nat → Int := fun i => ([ad, en, b2i inn, k, mx, per, sp, hu, po, b2i tg, b2i ha])[i]?.getD 0

/-- what is so where a pipe is valid -/
def fOk : BF := .and (.or (.no (.at (.eq (.x 3) (.n 0)))) (.and (.at (.eq (.x 1) (.n 0))) (.or (.or (.at (.eq (.x 4) (.n 8))) (.at (.eq (.x 4) (.n 16)))) (.or (.at (.eq (.x 4) (.n 32))) (.at (.eq (.x 4) (.n 64)))))))
  (.or (.at (.eq (.x 3) (.n 0))) (.and (.and (.no (.at (.lt (.x 1) (.n 1)))) (.no (.at (.lt (.n 15) (.x 1))))) (.and (.no (.at (.lt (.x 4) (.n 1)))) (.no (.at (.lt (.n 1024) (.x 4)))))))

/-- from a path on: Check returns the error z, valid whether there is none -/
noncomputable def chkQ (z : Int) (b : Bool) (p : Pc) : Bool :=
  andB (allChk (fun r => litI z r.v) (evFn Tryz.prog kw0 12 20 21 [pArg] (mem0 []) p)) (allChk (litP b) (evFn Tryz.prog kw0 12 20 22 [pArg] (mem0 []) p))
noncomputable def chkP (r : Rs V) : Bool := orB (andB (litI 0 r.v) (andB (chkQ 0 true r.p) (fOk.is true r.p))) (andB (litI 1 r.v) (chkQ 1 false r.p))

noncomputable def pQ (a b : Int) : Pc := ⟨[], setRng (pLf.map Lf.rng) 5 fun _ => (a, b)⟩
noncomputable def pRun (a b : Int) : Bool := allChk chkP (evFn Tryz.prog kw0 12 20 21 [pArg] (mem0 []) (pQ a b))
theorem p_run0 : pRun (-9223372036854775808) 0 = true := by kernel_rfl
theorem p_run1 : pRun 1 1 = true := by kernel_rfl
theorem p_run2 : pRun 2 2 = true := by kernel_rfl
theorem p_run3 : pRun 3 3 = true := by kernel_rfl
theorem p_run4 : pRun 4 4 = true := by kernel_rfl
theorem p_run5 : pRun 5 7 = true := by kernel_rfl
theorem p_run6 : pRun 8 8 = true := by kernel_rfl
theorem p_run7 : pRun 9 15 = true := by kernel_rfl
theorem p_run8 : pRun 16 16 = true := by kernel_rfl
theorem p_run9 : pRun 17 31 = true := by kernel_rfl
theorem p_run10 : pRun 32 32 = true := by kernel_rfl
theorem p_run11 : pRun 33 63 = true := by kernel_rfl
theorem p_run12 : pRun 64 64 = true := by kernel_rfl
theorem p_run13 : pRun 65 104 = true := by kernel_rfl
theorem p_run14 : pRun 105 127 = true := by kernel_rfl
theorem p_run15 : pRun 128 128 = true := by kernel_rfl
theorem p_run16 : pRun 129 168 = true := by kernel_rfl
theorem p_run17 : pRun 169 208 = true := by kernel_rfl
theorem p_run18 : pRun 209 248 = true := by kernel_rfl
theorem p_run19 : pRun 249 255 = true := by kernel_rfl
theorem p_run20 : pRun 256 256 = true := by kernel_rfl
theorem p_run21 : pRun 257 9223372036854775807 = true := by kernel_rfl

theorem set_get : ∀ {rng : List (Int × Int)} {i j : Nat} {f : Int × Int → Int × Int}, (setRng rng i f)[j]? = (rng[j]?).map fun r => if i = j then f r else r
  | [], i, j, f => by simp [setRng]
  | x :: l, 0, 0, f => by simp [setRng]
  | x :: l, 0, j + 1, f => by simp [setRng]
  | x :: l, i + 1, 0, f => by simp [setRng]
  | x :: l, i + 1, j + 1, f => by
    have := set_get (rng := l) (i := i) (j := j) (f := f)
    simpa [setRng] using this
theorem set_R {ρ : Nat → Int} {rng : List (Int × Int)} {k : Nat} {a b : Int} (hr : ∀ i lo hi, rng[i]? = some (lo, hi) → lo ≤ ρ i ∧ ρ i ≤ hi) (h : a ≤ ρ k ∧ ρ k ≤ b) :
    ∀ i lo hi, (setRng rng k fun _ => (a, b))[i]? = some (lo, hi) → lo ≤ ρ i ∧ ρ i ≤ hi := by
  intro i lo hi hi'
  rw [set_get] at hi'
  cases hg : rng[i]? with
  | none => rw [hg] at hi'; simp at hi'
  | some r =>
    rw [hg] at hi'
    by_cases e : k = i
    · subst e; simp at hi'; omega
    · simp [e] at hi'
      exact hr i lo hi (by rw [hg, hi'])

/-- where a pipe is valid -/
def FitOk (en k mx : Int) : Prop := (k = 0 ∧ en = 0 ∧ (mx = 8 ∨ mx = 16 ∨ mx = 32 ∨ mx = 64)) ∨ (k ≠ 0 ∧ (1 ≤ en ∧ en ≤ 15) ∧ (1 ≤ mx ∧ mx ≤ 1024))

theorem scal (ad en : Int) (inn : Bool) (k mx per sp hu po : Int) (tg ha : Bool) (hR : PipeR ad en k mx per sp hu po) :
    ∃ ok : Bool, (∀ w, Calls Tryz.prog 21 #[pipeV ad en inn k mx per sp hu po tg ha] w fun e w' => e = .returned (.int .i64 (if ok then 0 else 1)) ∧ Below w.heap.size w w') ∧
      (∀ w, Calls Tryz.prog 22 #[pipeV ad en inn k mx per sp hu po tg ha] w fun e w' => e = .returned (.bool ok) ∧ Below w.heap.size w w') ∧ (ok = true → FitOk en k mx) := by
  obtain ⟨h0, h1, h3, h4, h5, h6, h7, h8⟩ := hR
  let ρ := pRho ad en inn k mx per sp hu po tg ha
  have hb : ∀ b : Bool, 0 ≤ b2i b ∧ b2i b ≤ 1 := by intro b; cases b <;> simp [b2i]
  have hrng : ∀ i lo hi, (pLf.map Lf.rng)[i]? = some (lo, hi) → lo ≤ ρ i ∧ ρ i ≤ hi := by
    intro i lo hi h
    match i, h with
    | 0, h => obtain ⟨rfl, rfl⟩ := Prod.mk.inj (Option.some.inj (show some ((0 : Int), (255 : Int)) = some (lo, hi) from h)); exact h0
    | 1, h => obtain ⟨rfl, rfl⟩ := Prod.mk.inj (Option.some.inj (show some ((0 : Int), (255 : Int)) = some (lo, hi) from h)); exact h1
    | 2, h => obtain ⟨rfl, rfl⟩ := Prod.mk.inj (Option.some.inj (show some ((0 : Int), (1 : Int)) = some (lo, hi) from h)); exact hb inn
    | 3, h => obtain ⟨rfl, rfl⟩ := Prod.mk.inj (Option.some.inj (show some ((0 : Int), (255 : Int)) = some (lo, hi) from h)); exact h3
    | 4, h => obtain ⟨rfl, rfl⟩ := Prod.mk.inj (Option.some.inj (show some ((-9223372036854775808 : Int), (9223372036854775807 : Int)) = some (lo, hi) from h)); exact h4
    | 5, h => obtain ⟨rfl, rfl⟩ := Prod.mk.inj (Option.some.inj (show some ((-9223372036854775808 : Int), (9223372036854775807 : Int)) = some (lo, hi) from h)); exact h5
    | 6, h => obtain ⟨rfl, rfl⟩ := Prod.mk.inj (Option.some.inj (show some ((0 : Int), (255 : Int)) = some (lo, hi) from h)); exact h6
    | 7, h => obtain ⟨rfl, rfl⟩ := Prod.mk.inj (Option.some.inj (show some ((0 : Int), (255 : Int)) = some (lo, hi) from h)); exact h7
    | 8, h => obtain ⟨rfl, rfl⟩ := Prod.mk.inj (Option.some.inj (show some ((0 : Int), (255 : Int)) = some (lo, hi) from h)); exact h8
    | 9, h => obtain ⟨rfl, rfl⟩ := Prod.mk.inj (Option.some.inj (show some ((0 : Int), (1 : Int)) = some (lo, hi) from h)); exact hb tg
    | 10, h => obtain ⟨rfl, rfl⟩ := Prod.mk.inj (Option.some.inj (show some ((0 : Int), (1 : Int)) = some (lo, hi) from h)); exact hb ha
    | i + 11, h => exact absurd (show (none : Option (Int × Int)) = some (lo, hi) from h) (by simp)
  have hbool : ∀ (c : Cx) (i : Nat) (b : Bool), c.ρ i = b2i b → VR c (Lf.v .bool i) (.bool b) := by
    intro c i b h
    refine VR.bool.2 ?_
    show Value.bool b = Value.bool (c.ρ i == 1)
    rw [h]; cases b <;> rfl
  have hV : VRs (cx0 (fun _ => 0) ρ) [pArg] #[pipeV ad en inn k mx per sp hu po tg ha].toList :=
    VRs.cons (VR.agg.2 ⟨_, rfl, VRs.cons (VR.int.2 ⟨rfl, h0⟩) (VRs.cons (VR.int.2 ⟨rfl, h1⟩) (VRs.cons (hbool _ 2 inn rfl) (VRs.cons (VR.int.2 ⟨rfl, h3⟩) (VRs.cons (VR.int.2 ⟨rfl, h4⟩) (VRs.cons (VR.int.2 ⟨rfl, h5⟩) (VRs.cons (VR.int.2 ⟨rfl, h6⟩)
      (VRs.cons (VR.int.2 ⟨rfl, h7⟩) (VRs.cons (VR.int.2 ⟨rfl, h8⟩) (VRs.cons (hbool _ 9 tg rfl) (VRs.cons (hbool _ 10 ha rfl) VRs.nil))))))))))⟩) VRs.nil
  have hlaid : ∀ w : World, LaidAs (fun _ => 0) w [] := fun w _ x hx => nomatch hx
  have key : ∀ q, PcR ρ q → ∀ z b, chkQ z b q = true → (∀ w, Calls Tryz.prog 21 #[pipeV ad en inn k mx per sp hu po tg ha] w fun e w' => e = .returned (.int .i64 z) ∧ Below w.heap.size w w') ∧
      (∀ w, Calls Tryz.prog 22 #[pipeV ad en inn k mx per sp hu po tg ha] w fun e w' => e = .returned (.bool b) ∧ Below w.heap.size w w') := by
    intro q hq z b h
    obtain ⟨g1, g2⟩ := andB_ok (show andB _ _ = true from h)
    refine ⟨fun w => (con_run plain kw0_ok hq hV (hlaid w) g1).mono ?_, fun w => (con_run plain kw0_ok hq hV (hlaid w) g2).mono ?_⟩
    · rintro e w' ⟨r, c', y, hc, _, rfl, hv, _, hbel⟩
      exact ⟨by rw [litI_ok hc hv], hbel⟩
    · rintro e w' ⟨r, c', y, hc, hp, rfl, hv, hρ, hbel⟩
      exact ⟨by rw [litP_ok hc (hρ.symm ▸ hp) hv], hbel⟩
  have main : ∀ a b, a ≤ per ∧ per ≤ b → pRun a b = true → ∃ ok : Bool, (∀ w, Calls Tryz.prog 21 #[pipeV ad en inn k mx per sp hu po tg ha] w fun e w' => e = .returned (.int .i64 (if ok then 0 else 1)) ∧ Below w.heap.size w w') ∧
      (∀ w, Calls Tryz.prog 22 #[pipeV ad en inn k mx per sp hu po tg ha] w fun e w' => e = .returned (.bool ok) ∧ Below w.heap.size w w') ∧ (ok = true → FitOk en k mx) := by
    intro a b hab hrun
    have hq : PcR ρ (pQ a b) := ⟨fun c hc => by simp [pQ] at hc, set_R hrng hab⟩
    obtain ⟨e, w', r, c', y, hc, hp, _⟩ := calls_out (con_run plain kw0_ok hq hV (hlaid default) hrun)
    rcases orB_ok (show orB _ _ = true from hc) with h | h
    · obtain ⟨_, h⟩ := andB_ok h
      obtain ⟨g1, g2⟩ := andB_ok h
      obtain ⟨k1, k2⟩ := key _ hp 0 true g1
      refine ⟨true, k1, k2, fun _ => ?_⟩
      have hf := BF.is_ok hp g2
      change (((!(k == 0)) || ((en == 0) && (((mx == 8) || (mx == 16)) || ((mx == 32) || (mx == 64))))) && ((k == 0) || ((!decide (en < 1) && !decide (15 < en)) && (!decide (mx < 1) && !decide (1024 < mx))))) = true at hf
      simp only [Bool.and_eq_true, Bool.or_eq_true, Bool.not_eq_true', beq_iff_eq, decide_eq_false_iff_not, beq_eq_false_iff_ne] at hf
      unfold FitOk
      omega
    · obtain ⟨_, h⟩ := andB_ok h
      obtain ⟨k1, k2⟩ := key _ hp 1 false h
      exact ⟨false, k1, k2, fun h => by cases h⟩
  have hcov : ((-9223372036854775808) ≤ per ∧ per ≤ 0) ∨ (1 ≤ per ∧ per ≤ 1) ∨ (2 ≤ per ∧ per ≤ 2) ∨ (3 ≤ per ∧ per ≤ 3) ∨ (4 ≤ per ∧ per ≤ 4) ∨ (5 ≤ per ∧ per ≤ 7) ∨ (8 ≤ per ∧ per ≤ 8) ∨ (9 ≤ per ∧ per ≤ 15) ∨ (16 ≤ per ∧ per ≤ 16) ∨ (17 ≤ per ∧ per ≤ 31) ∨ (32 ≤ per ∧ per ≤ 32) ∨ (33 ≤ per ∧ per ≤ 63) ∨ (64 ≤ per ∧ per ≤ 64) ∨ (65 ≤ per ∧ per ≤ 104) ∨ (105 ≤ per ∧ per ≤ 127) ∨ (128 ≤ per ∧ per ≤ 128) ∨ (129 ≤ per ∧ per ≤ 168) ∨ (169 ≤ per ∧ per ≤ 208) ∨ (209 ≤ per ∧ per ≤ 248) ∨ (249 ≤ per ∧ per ≤ 255) ∨ (256 ≤ per ∧ per ≤ 256) ∨ (257 ≤ per ∧ per ≤ 9223372036854775807) := by omega
  rcases hcov with h | h | h | h | h | h | h | h | h | h | h | h | h | h | h | h | h | h | h | h | h | h
  · exact main _ _ h p_run0
  · exact main _ _ h p_run1
  · exact main _ _ h p_run2
  · exact main _ _ h p_run3
  · exact main _ _ h p_run4
  · exact main _ _ h p_run5
  · exact main _ _ h p_run6
  · exact main _ _ h p_run7
  · exact main _ _ h p_run8
  · exact main _ _ h p_run9
  · exact main _ _ h p_run10
  · exact main _ _ h p_run11
  · exact main _ _ h p_run12
  · exact main _ _ h p_run13
  · exact main _ _ h p_run14
  · exact main _ _ h p_run15
  · exact main _ _ h p_run16
  · exact main _ _ h p_run17
  · exact main _ _ h p_run18
  · exact main _ _ h p_run19
  · exact main _ _ h p_run20
  · exact main _ _ h p_run21
end Go.Proofs.YthapmkbeolbmiaaGreatDoor
