/-
  What is proved here: the closed facts of the program, and: the examples of the chapter hold whenever they are asked.
  Conditions: none.
-/
import Derived.Test.YtafkokkcnnfnlaaGreatSyM5
import Derived.Test.YtafkokkcnnfnlaaGreatFacts
namespace Go.Proofs.YtafkokkcnnfnlaaGreat
open Go.Sy Go.RowKit

set_option maxRecDepth 1000000

theorem own : ownKnob Tryz.prog.godebug = none := by kernel_rfl
theorem plain : Plain Tryz.prog := .of (by kernel_rfl) (by kernel_rfl)

theorem lives_runs : allTrue (evFn Tryz.prog kw0 10 30 4 [] (mem0 []) pc0) = true := by kernel_rfl

theorem lives_calls (w : World) (hw : LaidW w []) :
    Calls Tryz.prog 4 #[] w fun e w' => e = .returned (.bool true) ∧ Below w.heap.size w w' :=
  closed_ok plain kw0_ok lives_runs w hw

noncomputable def kwL : Kw := kwTrue 4 [] kw0
theorem kwL_ok (ρ : Nat → Int) : KwOK Tryz.prog ρ kwL := kwTrue_ok (callable plain (by kernel_rfl)) kw0_ok (by kernel_rfl) lives_calls
noncomputable def cfL : FuncId → List V → M V := evFn Tryz.prog kwL 10 20
theorem cfL_ok (ρ : Nat → Int) : CallsOK Tryz.prog ρ cfL := evFn_ok plain (kwL_ok ρ) 10 20

end Go.Proofs.YtafkokkcnnfnlaaGreat
