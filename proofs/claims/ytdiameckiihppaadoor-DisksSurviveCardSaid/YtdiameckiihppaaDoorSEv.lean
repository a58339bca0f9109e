/-
  What is proved here: the closed facts of the program; the examples of the chapter hold whenever they are asked.
  Conditions: the tables of commands and of unicode/utf8 are laid.
-/
import Derived.Test.YtdiameckiihppaaDoorSyM5
import Derived.Test.YtdiameckiihppaaDoorFacts
namespace Go.Proofs.YtdiameckiihppaaDoor
open Go.Sy Go.RowKit

set_option maxRecDepth 1000000

theorem own : ownKnob Tryd.prog.godebug = none := by kernel_rfl
theorem plain : Plain Tryd.prog := .of (by kernel_rfl) (by kernel_rfl)

/-- the laid variables -/
def dLaid : List (String × DataW Unit) := Rows.disksSurviveRow.laid
noncomputable def dG : List (Nat × List V) := (laidG Tryd.prog 0 dLaid).getD []
theorem d_laidG : laidG Tryd.prog 0 dLaid = some dG := by kernel_rfl
theorem d_handles : (dLaid.all fun x => x.2.handleName?.isNone) = true := by kernel_rfl
theorem d_fixed : allL (fun x => fixed x.2) dG = true := by kernel_rfl

theorem lives_runs : allTrue (evFn Tryd.prog kw0 14 30 4 [] (mem0 dG) pc0) = true := by kernel_rfl
theorem lives_calls (w : World) (hw : LaidW w dG) : Calls Tryd.prog 4 #[] w fun e w' => e = .returned (.bool true) ∧ Below w.heap.size w w' := closed_ok plain kw0_ok lives_runs w hw
end Go.Proofs.YtdiameckiihppaaDoor
