/-
  What is proved here: the closed facts of the program, and: the examples of the chapter hold whenever they are asked.
  Conditions: none.
-/
import Derived.Test.YtjbkbapndoacpaaSyM5
import Derived.Test.YtjbkbapndoacpaaRows
import Derived.KernelRfl
namespace Go.Proofs.Ytjbkbapndoacpaa
open Go.Sy Go.RowKit

set_option maxRecDepth 1000000

theorem own : ownKnob Try.prog.godebug = none := by kernel_rfl
theorem laidOut : laidOutB Try.prog = true := by kernel_rfl
theorem plain : Plain Try.prog := .of (by kernel_rfl) (by kernel_rfl)

theorem lives_runs : allTrue (evFn Try.prog kw0 10 20 5 [] (mem0 []) pc0) = true := by kernel_rfl

theorem lives_calls (w : World) (hw : LaidW w []) :
    Calls Try.prog 5 #[] w fun e w' => e = .returned (.bool true) ∧ Below w.heap.size w w' :=
  closed_ok plain kw0_ok lives_runs w hw

noncomputable def kwN : Kw := kwTrue 5 [] kw0
theorem kwN_ok (ρ : Nat → Int) : KwOK Try.prog ρ kwN := kwTrue_ok (callable plain (by kernel_rfl)) kw0_ok (by kernel_rfl) lives_calls

/-! ### packets without data, whose Check is known: tokens (1, 9, 13) with any address and endpoint, and 2, 6, 10, 14 -/
noncomputable def nu8 (n : Nat) : V := .int .u8 (.n (.ofNat n))
noncomputable def nu16 (n : Nat) : V := .int .u16 (.n (.ofNat n))
noncomputable def nu32 (n : Nat) : V := .int .u32 (.n (.ofNat n))
noncomputable def ni64 (n : Nat) : V := .int .i64 (.n (.ofNat n))
noncomputable def bT : V := .bool (.lit true)
noncomputable def bF : V := .bool (.lit false)
noncomputable def natV (v : V) : Nat := onInt v (fun _ e => onN e Int.toNat 0) 0
noncomputable def isTok (h : Nat) : Bool := orB (Nat.beq h 1) (orB (Nat.beq h 9) (Nat.beq h 13))
noncomputable def isPlain (h : Nat) : Bool := orB (Nat.beq h 2) (orB (Nat.beq h 10) (orB (Nat.beq h 14) (Nat.beq h 6)))
noncomputable def pnP (h : Nat) : Pn := ⟨0, selB (isTok h) 2 0, [(0, .agg [nu8 h, selB (isTok h) (.int .u8 (.x 0)) (nu8 0), selB (isTok h) (.int .u8 (.x 1)) (nu8 0), nu16 0, nu8 0, nu8 0, bF, bF, nu8 0, .nilSlice])],
  [], 4096, 0, [], selB (isTok h) [(0, 127), (0, 15)] [], []⟩
noncomputable def pidV (v : V) : Nat := match v with | .agg (a :: _) => natV a | _ => 0
noncomputable def hdP : Hds := ⟨pnP, fun h => orB (isTok h) (isPlain h), fun _ => 0, fun env _ => pidV (env 0)⟩
noncomputable def okV (_ : Nat) : V := ni64 0
noncomputable def chkCode : Code := Try.f58.body.getD .skip
theorem chk_body : Try.f58.body = some chkCode := by kernel_rfl
theorem chk_nt : Try.f58.ntmps = 59 := by kernel_rfl
noncomputable def cfN : FuncId → List V → M V := evFn Try.prog kwN 10 20
theorem cfN_ok (ρ : Nat → Int) : CallsOK Try.prog ρ cfN := evFn_ok plain (kwN_ok ρ) 10 20
noncomputable def chkRun (h : Nat) : Bool := goodT (leafV' 2 (okV h)) (evCode chkCode Try.prog cfN 10 59 (pnP h).env (pnP h).mem (pnP h).pc)
theorem chk_runs : ([1, 9, 13, 2, 10, 14, 6].all chkRun) = true := by kernel_rfl
theorem one_cover {p : Pc} {J : (Nat → Int) → Prop} : ∀ ρ, J ρ → PcR ρ p → ∃ q ∈ [p], PcR ρ q := fun _ _ h => ⟨_, .head _, h⟩
theorem one_run {p : Pc} {f : Pc → Bool} (h : f p = true) : ∀ q ∈ [p], f q = true := fun q hq => by
  simp only [List.mem_singleton] at hq
  subst hq; exact h
theorem chk_at (h : Nat) (hh : orB (isTok h) (isPlain h) = true) : chkRun h = true := by
  refine List.all_eq_true.1 chk_runs h ?_
  unfold isTok isPlain at hh
  rcases orB_ok hh with hh | hh
  · rcases orB_ok hh with hh | hh
    · rw [(beq_iff _ _).1 hh]; simp
    · rcases orB_ok hh with hh | hh <;> rw [(beq_iff _ _).1 hh] <;> simp
  · rcases orB_ok hh with hh | hh
    · rw [(beq_iff _ _).1 hh]; simp
    · rcases orB_ok hh with hh | hh
      · rw [(beq_iff _ _).1 hh]; simp
      · rcases orB_ok hh with hh | hh <;> rw [(beq_iff _ _).1 hh] <;> simp
noncomputable def kwQ : Kw := kwVal 58 hdP okV Try.f58.ntmps kwN
theorem kwQ_ok (ρ : Nat → Int) : KwOK Try.prog ρ kwQ := kwVal_ok Try.func58 chk_body (callable plain (by kernel_rfl)) (fun h W a hh h0 => by
  unfold AtHd at h0
  rw [chk_nt] at h0
  exact val_hds (fn := Try.f58) (t := 2) (it := 10) (qs := [(pnP h).pc]) plain.mixed cfN_ok (by kernel_rfl) (by kernel_rfl) (fun ρ hp => ⟨_, .head _, hp⟩) (one_run (f := fun q => goodT (leafV' 2 (okV h)) (evCode chkCode Try.prog cfN 10 59 (pnP h).env (pnP h).mem q)) (chk_at h hh)) h0) (kwN_ok ρ)
noncomputable def cfQ : FuncId → List V → M V := evFn Try.prog kwQ 10 20
theorem cfQ_ok (ρ : Nat → Int) : CallsOK Try.prog ρ cfQ := evFn_ok plain (kwQ_ok ρ) 10 20

end Go.Proofs.Ytjbkbapndoacpaa
