/-
  What is proved here: the closed facts of the program, and: the examples of the chapter hold whenever they are asked.
  Conditions: none.
-/
import Derived.Test.YtfliaagohfoipaaGreatSyM5
import Derived.Test.YtfliaagohfoipaaGreatFacts
namespace Go.Proofs.YtfliaagohfoipaaGreat
open Go.Sy Go.RowKit

set_option maxRecDepth 1000000

theorem own : ownKnob Tryz.prog.godebug = none := by kernel_rfl
theorem plain : Plain Tryz.prog := .of (by kernel_rfl) (by kernel_rfl)

theorem lives_runs : allTrue (evFn Tryz.prog kw0 30 30 9 [] (mem0 []) pc0) = true := by kernel_rfl

theorem lives_calls (w : World) (hw : LaidW w []) :
    Calls Tryz.prog 9 #[] w fun e w' => e = .returned (.bool true) ∧ Below w.heap.size w w' :=
  closed_ok plain kw0_ok lives_runs w hw

noncomputable def kwH : Kw := kwTrue 9 [] kw0
theorem kwH_ok (ρ : Nat → Int) : KwOK Tryz.prog ρ kwH := kwTrue_ok (callable plain (by kernel_rfl)) kw0_ok (by kernel_rfl) lives_calls
noncomputable def cfH : FuncId → List V → M V := evFn Tryz.prog kwH 14 30
theorem cfH_ok (ρ : Nat → Int) : CallsOK Tryz.prog ρ cfH := evFn_ok plain (kwH_ok ρ) 14 30

noncomputable def nu8 (n : Nat) : V := .int .u8 (.n (.ofNat n))
noncomputable def nu16 (n : Nat) : V := .int .u16 (.n (.ofNat n))
noncomputable def ni64 (n : Nat) : V := .int .i64 (.n (.ofNat n))
noncomputable def bT : V := .bool (.lit true)
noncomputable def bF : V := .bool (.lit false)
noncomputable def natV (v : V) : Nat := onInt v (fun _ e => onN e Int.toNat 0) 0
noncomputable def cellV (m : Mem) (i k : Nat) : V := onCells (m.tr.get i) (fun l _ _ _ => (nth k l).getD .bad) .bad
noncomputable def lenSl (v : V) : Nat := match v with | .slice _ _ n _ => n | _ => 0
noncomputable def reps (n : Nat) (v : V) : List V := Nat.rec [] (fun _ l => v :: l) n

end Go.Proofs.YtfliaagohfoipaaGreat
