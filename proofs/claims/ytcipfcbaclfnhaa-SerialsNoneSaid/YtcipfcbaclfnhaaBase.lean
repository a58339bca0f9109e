/-
  What is proved here: the closed facts of the program, and: the examples of the chapter hold whenever they are asked.
  Conditions: none.
-/
import Derived.Test.YtcipfcbaclfnhaaSyArgs2
import Derived.Test.YtcipfcbaclfnhaaSyJoin
import Derived.Test.YtcipfcbaclfnhaaRows
import Derived.KernelRfl
namespace Go.Proofs.Ytcipfcbaclfnhaa
open Go.Sy Go.RowKit

set_option maxRecDepth 1000000

theorem own : ownKnob Try.prog.godebug = none := by kernel_rfl
theorem laidOut : laidOutB Try.prog = true := by kernel_rfl
theorem plain : Plain Try.prog := .of (by kernel_rfl) (by kernel_rfl)

theorem lives_runs : allTrue (evFn Try.prog kw0 10 20 5 [] (mem0 []) pc0) = true := by kernel_rfl

theorem lives_calls (w : World) (hw : ∀ x ∈ ([] : List (Nat × List V)), x.1 < 4096 ∧ BlkR (cx0 fun _ => 0) w (x.1, 0) (.cells x.2 false false none)) :
    Calls Try.prog 5 #[] w fun e w' => e = .returned (.bool true) ∧ Below w.heap.size w w' :=
  closed_ok plain kw0_ok lives_runs w hw

noncomputable def kwS : Kw := kwTrue 5 [] (kwJoin [7, 25] kw0)
theorem kwS_ok (ρ : Nat → Int) : KwOK Try.prog ρ kwS := kwTrue_ok (callable plain (by kernel_rfl)) (kwJoin_ok kw0_ok) (by kernel_rfl) lives_calls
noncomputable def kwN : Kw := kwTrue 5 [] kw0
theorem kwN_ok (ρ : Nat → Int) : KwOK Try.prog ρ kwN := kwTrue_ok (callable plain (by kernel_rfl)) kw0_ok (by kernel_rfl) lives_calls

end Go.Proofs.Ytcipfcbaclfnhaa
