/-
  What is proved here: the closed facts of the program, and: the examples of the chapters hold whenever they are asked.
  Conditions: none.
-/
import Derived.Test.YtafkokkcnnfnlaaGreatDoorSyM5
import Derived.Test.YtafkokkcnnfnlaaGreatDoorFacts
namespace Go.Proofs.YtafkokkcnnfnlaaGreatDoor
open Go.Sy Go.RowKit

set_option maxRecDepth 1000000

theorem own : ownKnob Tryz.prog.godebug = none := by kernel_rfl
theorem plain : Plain Tryz.prog := .of (by kernel_rfl) (by kernel_rfl)

theorem lives22_runs : allTrue (evFn Tryz.prog kw0 10 30 22 [] (mem0 []) pc0) = true := by kernel_rfl
theorem lives18_runs : allTrue (evFn Tryz.prog kw0 10 30 18 [] (mem0 []) pc0) = true := by kernel_rfl

theorem lives22_calls (w : World) (hw : LaidW w []) :
    Calls Tryz.prog 22 #[] w fun e w' => e = .returned (.bool true) ∧ Below w.heap.size w w' :=
  closed_ok plain kw0_ok lives22_runs w hw
theorem lives18_calls (w : World) (hw : LaidW w []) :
    Calls Tryz.prog 18 #[] w fun e w' => e = .returned (.bool true) ∧ Below w.heap.size w w' :=
  closed_ok plain kw0_ok lives18_runs w hw

noncomputable def kwD : Kw := kwTrue 22 [] (kwTrue 18 [] kw0)
theorem kwD_ok (ρ : Nat → Int) : KwOK Tryz.prog ρ kwD := kwTrue_ok (callable plain (by kernel_rfl)) (kwTrue_ok (callable plain (by kernel_rfl)) kw0_ok (by kernel_rfl) lives18_calls) (by kernel_rfl) lives22_calls
noncomputable def cfD : FuncId → List V → M V := evFn Tryz.prog kwD 10 20
theorem cfD_ok (ρ : Nat → Int) : CallsOK Tryz.prog ρ cfD := evFn_ok plain (kwD_ok ρ) 10 20

end Go.Proofs.YtafkokkcnnfnlaaGreatDoor
