/-
  What is proved here: the closed facts of the program, and: the examples of the chapter hold whenever they are asked.
  Conditions: the table of math/bits is laid.
-/
import Derived.Test.YtcipfcbaclfnhaaDoorSyM5
import Derived.Test.YtcipfcbaclfnhaaDoorCards
import Derived.Test.YtcipfcbaclfnhaaDoorTie
import Derived.KernelRfl
import Derived.SevenTiedAt
namespace Go.Proofs.YtcipfcbaclfnhaaDoor
open Go.Sy Go.RowKit

set_option maxRecDepth 1000000

theorem own : ownKnob Tryd.prog.godebug = none := by kernel_rfl
theorem laidOut : laidOutB Tryd.prog = true := by kernel_rfl
theorem plain : Plain Tryd.prog := .of (by kernel_rfl) (by kernel_rfl)

/-- the laid variable -/
def laid : List (String × DataW Unit) := Rows.recoveriesMarksRow.laid
theorem laidPlain : (laid.all fun x => x.2.handleName?.isNone) = true := by kernel_rfl

/-- its cells -/
noncomputable def tab : List V := [0, 1, 28, 2, 29, 14, 24, 3, 30, 22, 20, 15, 25, 17, 4, 8, 31, 27, 13, 23, 21, 19, 16, 7, 26, 12, 18, 6, 11, 5, 10, 9].map fun n => .int .u8 (.n (.ofNat n))
noncomputable def glob : List (Nat × List V) := [(0, tab)]
theorem globEq : laidG Tryd.prog laid = some glob := by kernel_rfl
theorem glob_fixed : allL (fun x => fixed x.2) glob = true := by kernel_rfl

theorem laid_glob {W : World} (h : laidMetH Tryd.prog laid W) (ρ : Nat → Int) : ∀ x ∈ glob, x.1 < 4096 ∧ BlkR (cx0 ρ) W (x.1, 0) (.cells x.2 false false none) :=
  laidMet_ok globEq laidPlain h

theorem lives_runs : allTrue (evFn Tryd.prog kw0 10 20 8 [] (mem0 glob) pc0) = true := by kernel_rfl

theorem lives_calls (w : World) (hw : ∀ x ∈ glob, x.1 < 4096 ∧ BlkR (cx0 fun _ => 0) w (x.1, 0) (.cells x.2 false false none)) :
    Calls Tryd.prog 8 #[] w fun e w' => e = .returned (.bool true) ∧ Below w.heap.size w w' :=
  closed_ok plain kw0_ok lives_runs w hw

noncomputable def kw : Kw := kwTrue 8 glob kw0
theorem kw_ok (ρ : Nat → Int) : KwOK Tryd.prog ρ kw := kwTrue_ok (callable plain (by kernel_rfl)) kw0_ok (by kernel_rfl) lives_calls

end Go.Proofs.YtcipfcbaclfnhaaDoor
