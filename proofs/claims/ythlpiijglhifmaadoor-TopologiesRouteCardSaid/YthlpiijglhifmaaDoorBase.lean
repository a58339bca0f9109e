/-
  What is proved here: the closed facts of the program, and: the examples of the chapter hold whenever they are asked.
  Conditions: none.
-/
import Derived.Test.YthlpiijglhifmaaDoorSyArgs2
import Derived.Test.YthlpiijglhifmaaDoorSyCo
import Derived.Test.YthlpiijglhifmaaDoorSyLaid
import Derived.Test.YthlpiijglhifmaaDoorCards
import Derived.Test.YthlpiijglhifmaaDoorTie
import Derived.KernelRfl
import Derived.SevenTiedAt
namespace Go.Proofs.YthlpiijglhifmaaDoor
open Go.Sy Go.RowKit

set_option maxRecDepth 1000000

theorem own : ownKnob Tryd.prog.godebug = none := by kernel_rfl
theorem laidOut : laidOutB Tryd.prog = true := by kernel_rfl
theorem plain : Plain Tryd.prog := .of (by kernel_rfl) (by kernel_rfl)

/-- the laid variables -/
def laid : List (String × DataW Unit) := Rows.topologiesRouteRow.laid

theorem lives_runs : allTrue (evFn Tryd.prog kw0 10 20 6 [] (mem0 []) pc0) = true := by kernel_rfl

theorem lives_calls (w : World) (hw : ∀ x ∈ ([] : List (Nat × List V)), x.1 < 4096 ∧ BlkR (cx0 fun _ => 0) w (x.1, 0) (.cells x.2 false false none)) :
    Calls Tryd.prog 6 #[] w fun e w' => e = .returned (.bool true) ∧ Below w.heap.size w w' :=
  closed_ok plain kw0_ok lives_runs w hw

noncomputable def kwT : Kw := kwTrue 6 [] kw0
theorem kwT_ok (ρ : Nat → Int) : KwOK Tryd.prog ρ kwT := kwTrue_ok (callable plain (by kernel_rfl)) kw0_ok (by kernel_rfl) lives_calls
noncomputable def cfT : FuncId → List V → M V := evFn Tryd.prog kwT 10 20
theorem cfT_ok (ρ : Nat → Int) : CallsOK Tryd.prog ρ cfT := evFn_ok plain (kwT_ok ρ) 10 20

end Go.Proofs.YthlpiijglhifmaaDoor
