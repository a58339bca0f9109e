/-
  What is proved here: the closed facts of the program, and: the examples of the chapter hold whenever they are asked.
  Conditions: the table of the pipes' package is laid.
-/
import Derived.Test.YtfliaagohfoipaaGreatDoorSyM5
import Derived.Test.YtfliaagohfoipaaGreatDoorFacts
namespace Go.Proofs.YtfliaagohfoipaaGreatDoor
open Go.Sy Go.RowKit

set_option maxRecDepth 1000000

theorem own : ownKnob Tryz.prog.godebug = none := by kernel_rfl
theorem plain : Plain Tryz.prog := .of (by kernel_rfl) (by kernel_rfl)

/-- the laid variables -/
def pLaid : List (String × DataW Unit) := Rows.pipesNoneRow.laid
noncomputable def pG : List (Nat × List V) := (laidG Tryz.prog 0 pLaid).getD []
theorem p_laidG : laidG Tryz.prog 0 pLaid = some pG := by kernel_rfl

theorem lives_runs : allTrue (evFn Tryz.prog kw0 10 30 12 [] (mem0 pG) pc0) = true := by kernel_rfl

theorem lives_calls (w : World) (hw : LaidW w pG) :
    Calls Tryz.prog 12 #[] w fun e w' => e = .returned (.bool true) ∧ Below w.heap.size w w' :=
  closed_ok plain kw0_ok lives_runs w hw

noncomputable def kwP : Kw := kwTrue 12 pG kw0
theorem kwP_ok (ρ : Nat → Int) : KwOK Tryz.prog ρ kwP := kwTrue_ok (callable plain (by kernel_rfl)) kw0_ok (by kernel_rfl) lives_calls
noncomputable def cfP : FuncId → List V → M V := evFn Tryz.prog kwP 10 20
theorem cfP_ok (ρ : Nat → Int) : CallsOK Tryz.prog ρ cfP := evFn_ok plain (kwP_ok ρ) 10 20

end Go.Proofs.YtfliaagohfoipaaGreatDoor
