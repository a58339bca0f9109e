/-
  What is proved here: the closed facts of the program, and: the examples of the chapter hold whenever they are asked.
  Conditions: the tables of commands and of unicode/utf8 are laid.
-/
import Derived.Test.YtehhcghjclefjaaGreatDoorSyM5
import Derived.Test.YtehhcghjclefjaaGreatDoorFacts
namespace Go.Proofs.YtehhcghjclefjaaGreatDoor
open Go.Sy Go.RowKit

set_option maxRecDepth 1000000

theorem own : ownKnob Tryz.prog.godebug = none := by kernel_rfl
theorem plain : Plain Tryz.prog := .of (by kernel_rfl) (by kernel_rfl)

/-- the laid variables -/
def dLaid : List (String × DataW Unit) := Rows.disksKnownRow.laid
noncomputable def dG : List (Nat × List V) := (laidG Tryz.prog 0 dLaid).getD []
theorem d_laidG : laidG Tryz.prog 0 dLaid = some dG := by kernel_rfl

theorem lives_runs : allTrue (evFn Tryz.prog kw0 200 30 5 [] (mem0 dG) pc0) = true := by kernel_rfl

theorem lives_calls (w : World) (hw : LaidW w dG) :
    Calls Tryz.prog 5 #[] w fun e w' => e = .returned (.bool true) ∧ Below w.heap.size w w' :=
  closed_ok plain kw0_ok lives_runs w hw

noncomputable def kwD : Kw := kwTrue 5 dG kw0
theorem kwD_ok (ρ : Nat → Int) : KwOK Tryz.prog ρ kwD := kwTrue_ok (callable plain (by kernel_rfl)) kw0_ok (by kernel_rfl) lives_calls

noncomputable def nu8 (n : Nat) : V := .int .u8 (.n (.ofNat (n % 256)))
noncomputable def nu16 (n : Nat) : V := .int .u16 (.n (.ofNat n))
noncomputable def nu32 (n : Nat) : V := .int .u32 (.n (.ofNat n))
noncomputable def ni64 (n : Nat) : V := .int .i64 (.n (.ofNat n))
noncomputable def nb (b : Bool) : V := .bool (.lit b)
noncomputable def natV (v : V) : Nat := onInt v (fun _ e => onN e Int.toNat 0) 0
noncomputable def gB : List (Nat × Blk) := dG.map fun x => (x.1, .cells x.2 false false none)
theorem one_cover {p : Pc} {J : (Nat → Int) → Prop} : ∀ ρ, J ρ → PcR ρ p → ∃ q ∈ [p], PcR ρ q := fun _ _ h => ⟨_, .head _, h⟩
theorem one_run {p : Pc} {f : Pc → Bool} (h : f p = true) : ∀ q ∈ [p], f q = true := fun q hq => by
  simp only [List.mem_singleton] at hq
  subst hq; exact h
noncomputable def cfB : FuncId → List V → M V := evFn Tryz.prog kwD 10 20
theorem cfB_ok (ρ : Nat → Int) : CallsOK Tryz.prog ρ cfB := evFn_ok plain (kwD_ok ρ) 10 20

/-! ### packets, whose Check is known: tokens (1, 9, 13) with any address and endpoint, 2, 6, 10, 14, and data (3, 11) of some lengths -/
noncomputable def isTok (h : Nat) : Bool := orB (Nat.beq h 1) (orB (Nat.beq h 9) (Nat.beq h 13))
noncomputable def isPlain (h : Nat) : Bool := orB (Nat.beq h 2) (orB (Nat.beq h 10) (orB (Nat.beq h 14) (Nat.beq h 6)))
noncomputable def isData (h : Nat) : Bool := orB (Nat.beq h 3) (Nat.beq h 11)
noncomputable def dataV (n : Nat) : V := .slice 4096 0 n .u
noncomputable def dataB (n : Nat) : List (Nat × Blk) := [(4096, .cells ((List.range n).map fun i => .int .u8 (.x i)) false false none)]
noncomputable def pidV (v : V) : Nat := match v with | .agg (a :: _) => natV a | _ => 0
noncomputable def lenOfV (v : V) : Nat := match v with | .agg [_, _, _, _, _, _, _, _, _, .slice _ _ n _] => n | _ => 0
/-- the state: 16 times the length, and the packet's kind -/
noncomputable def pnP (h : Nat) : Pn := ⟨0, selB (isTok (h % 16)) 2 (h / 16), [(0, .agg [nu8 (h % 16), selB (isTok (h % 16)) (.int .u8 (.x 0)) (nu8 0), selB (isTok (h % 16)) (.int .u8 (.x 1)) (nu8 0), nu16 0, nu8 0, nu8 0, nb false, nb false, nu8 0, selB (Nat.beq (h / 16) 0) .nilSlice (dataV (h / 16))])],
  selB (Nat.beq (h / 16) 0) [] (dataB (h / 16)), 4097, 0, [], selB (isTok (h % 16)) [(0, 127), (0, 15)] ((List.range (h / 16)).map fun _ => (0, 255)), []⟩
def okP : List Nat := [1, 9, 13, 2, 10, 14, 6, 3, 11] ++ ([8, 13, 18, 31, 36, 64].flatMap fun n => [3 + 16 * n, 11 + 16 * n])
noncomputable def hdP : Hds := ⟨pnP, fun h => okP.contains h, fun _ => 0, fun env _ => Nat.add (pidV (env 0)) (Nat.mul 16 (lenOfV (env 0)))⟩
noncomputable def okV (_ : Nat) : V := ni64 0
noncomputable def chkCode : Code := Tryz.f160.body.getD .skip
theorem chk_body : Tryz.f160.body = some chkCode := by kernel_rfl
theorem chk_nt : Tryz.f160.ntmps = 59 := by kernel_rfl
noncomputable def chkRun (h : Nat) : Bool := goodT (leafV' 2 (okV h)) (evCode chkCode Tryz.prog cfB 80 59 (pnP h).env (pnP h).mem (pnP h).pc)
theorem chk_runs : (okP.all chkRun) = true := by kernel_rfl
theorem chk_at (h : Nat) (hh : okP.contains h = true) : chkRun h = true := List.all_eq_true.1 chk_runs h (by simpa using hh)
noncomputable def kwE : Kw := kwVal 160 hdP okV Tryz.f160.ntmps kwD
theorem kwE_ok (ρ : Nat → Int) : KwOK Tryz.prog ρ kwE := kwVal_ok Tryz.func160 chk_body (callable plain (by kernel_rfl)) (fun h W a hh h0 => by
  unfold AtHd at h0
  rw [chk_nt] at h0
  exact val_hds (fn := Tryz.f160) (t := 2) (it := 80) (qs := [(pnP h).pc]) plain.mixed cfB_ok (by kernel_rfl) (by kernel_rfl) (fun ρ hp => ⟨_, .head _, hp⟩) (one_run (f := fun q => goodT (leafV' 2 (okV h)) (evCode chkCode Tryz.prog cfB 80 59 (pnP h).env (pnP h).mem q)) (chk_at h hh)) h0) (kwD_ok ρ)

/-! ### commands, which are proper: by their code, with any block and count, or any length -/
noncomputable def isBlk (h : Nat) : Bool := orB (Nat.beq h 40) (orB (Nat.beq h 42) (Nat.beq h 53))
noncomputable def isLen (h : Nat) : Bool := orB (Nat.beq h 3) (Nat.beq h 18)
noncomputable def pnO (h : Nat) : Pn := ⟨0, 3, [(0, .agg [nu8 h, selB (isBlk h) (.int .u32 (.x 0)) (nu32 0), selB (isBlk h) (.int .u16 (.x 1)) (nu16 0), selB (isLen h) (.int .i64 (.x 2)) (ni64 0)])], gB, 4096, 0, [], [(0, 100000), (0, 65535), (0, 255)], []⟩
def okO : List Nat := [0, 3, 18, 37, 40, 42, 53]
noncomputable def hdO : Hds := ⟨pnO, fun h => okO.contains h, fun _ => 0, fun env _ => pidV (env 0)⟩
noncomputable def prCode : Code := Tryz.f78.body.getD .skip
theorem pr_body : Tryz.f78.body = some prCode := by kernel_rfl
theorem pr_nt : Tryz.f78.ntmps = 52 := by kernel_rfl
noncomputable def tV (_ : Nat) : V := nb true
noncomputable def prRun (h : Nat) : Bool := goodT (leafV' 2 (tV h)) (evCode prCode Tryz.prog cfB 10 52 (pnO h).env (pnO h).mem (pnO h).pc)
theorem pr_runs : (okO.all prRun) = true := by kernel_rfl
theorem pr_at (h : Nat) (hh : okO.contains h = true) : prRun h = true := List.all_eq_true.1 pr_runs h (by simpa using hh)
noncomputable def kwF : Kw := kwVal 78 hdO tV Tryz.f78.ntmps kwE
theorem kwF_ok (ρ : Nat → Int) : KwOK Tryz.prog ρ kwF := kwVal_ok Tryz.func78 pr_body (callable plain (by kernel_rfl)) (fun h W a hh h0 => by
  unfold AtHd at h0
  rw [pr_nt] at h0
  exact val_hds (fn := Tryz.f78) (t := 2) (it := 10) (qs := [(pnO h).pc]) plain.mixed cfB_ok (by kernel_rfl) (by kernel_rfl) (fun ρ hp => ⟨_, .head _, hp⟩) (one_run (f := fun q => goodT (leafV' 2 (tV h)) (evCode prCode Tryz.prog cfB 10 52 (pnO h).env (pnO h).mem q)) (pr_at h hh)) h0) (kwE_ok ρ)

end Go.Proofs.YtehhcghjclefjaaGreatDoor
