/-
  What is proved here: the rest of plugboardlaw39.DisksErrors returns true: one run of the evaluator from a place on.
  Conditions: the tables of commands are laid.
-/
import Derived.Test.YthapmkbeolbmiaaGreatDoorSyM5
import Derived.Test.YthapmkbeolbmiaaGreatDoorFacts
namespace Go.Proofs.YthapmkbeolbmiaaGreatDoor
open Go.Sy Go.RowKit

set_option maxRecDepth 1000000

theorem own : ownKnob Tryz.prog.godebug = none := by kernel_rfl
theorem plain : Plain Tryz.prog := .of (by kernel_rfl) (by kernel_rfl)

/-- the laid variables -/
def dLaid : List (String × DataW Unit) := Rows.disksErrorsRow.laid
noncomputable def dG : List (Nat × List V) := (laidG Tryz.prog 0 dLaid).getD []
theorem d_laidG : laidG Tryz.prog 0 dLaid = some dG := by kernel_rfl
theorem d_handles : (dLaid.all fun x => x.2.handleName?.isNone) = true := by kernel_rfl
theorem d_fixed : allL (fun x => fixed x.2) dG = true := by kernel_rfl

theorem lives_runs : allTrue (evFn Tryz.prog kw0 14 30 5 [] (mem0 dG) pc0) = true := by kernel_rfl
theorem lives_calls (w : World) (hw : LaidW w dG) : Calls Tryz.prog 5 #[] w fun e w' => e = .returned (.bool true) ∧ Below w.heap.size w w' := closed_ok plain kw0_ok lives_runs w hw

noncomputable def kwD : Kw := kwTrue 5 dG kw0
theorem kwD_ok (ρ : Nat → Int) : KwOK Tryz.prog ρ kwD := kwTrue_ok (callable plain (by kernel_rfl)) kw0_ok (by kernel_rfl) lives_calls
noncomputable def cfD : FuncId → List V → M V := evFn Tryz.prog kwD 14 30
theorem cfD_ok (ρ : Nat → Int) : CallsOK Tryz.prog ρ cfD := evFn_ok plain (kwD_ok ρ) 14 30

noncomputable def deCode : Code := Tryz.f3.body.getD .skip
theorem de_body : Tryz.f3.body = some deCode := by kernel_rfl
/-- what stands behind the first comparison -/
noncomputable def deRest : Code := place [.r, .r, .r, .r, .r, .r, .r, .r] deCode

/-- what is known there -/
noncomputable def deEnv : Env := (Env.put (fun _ => V.bad) 1 (.int .i64 (.x 0))).put 5 (.ptr 4096 0)
noncomputable def deMem : Mem := ⟨(layG dG).set 4096 (.cells [.int .u16 (.x 1), .int .u16 (.x 2)] false false none), 4097, .nil, 0⟩
noncomputable def dePc : Pc := ⟨[], [(-9223372036854775808, 9223372036854775807), (0, 65535), (0, 65535)]⟩

theorem de_run : goodT (leafR 6) (evCode deRest Tryz.prog cfD 14 277 deEnv deMem dePc) = true := by kernel_rfl
end Go.Proofs.YthapmkbeolbmiaaGreatDoor
