/-
  What is proved here: the closed facts of the program, and: the examples of the chapter hold whenever they are asked.
  Conditions: none.
-/
import Derived.Test.YtjbkbapndoacpaaSyM5
import Derived.Test.YtjbkbapndoacpaaRows
import Derived.KernelRfl
namespace Go.Proofs.Ytjbkbapndoacpaa
open Go.Sy Go.RowKit

set_option maxRecDepth 1000000

theorem own : ownKnob Try.prog.godebug = none := by kernel_rfl
theorem laidOut : laidOutB Try.prog = true := by kernel_rfl
theorem plain : Plain Try.prog := .of (by kernel_rfl) (by kernel_rfl)

theorem lives_runs : allTrue (evFn Try.prog kw0 10 20 5 [] (mem0 []) pc0) = true := by kernel_rfl

theorem lives_calls (w : World) (hw : LaidW w []) :
    Calls Try.prog 5 #[] w fun e w' => e = .returned (.bool true) ∧ Below w.heap.size w w' :=
  closed_ok plain kw0_ok lives_runs w hw

noncomputable def kwN : Kw := kwTrue 5 [] kw0
theorem kwN_ok (ρ : Nat → Int) : KwOK Try.prog ρ kwN := kwTrue_ok (callable plain (by kernel_rfl)) kw0_ok (by kernel_rfl) lives_calls

end Go.Proofs.Ytjbkbapndoacpaa
