/-
  What is proved here: the closed facts of the program, and: the examples of the chapter hold whenever they are asked.
  Conditions: none.
-/
import Derived.Test.YtgjhgbhoidnbfaaGreatDoorSyM4
import Derived.Test.YtgjhgbhoidnbfaaGreatDoorFacts
namespace Go.Proofs.YtgjhgbhoidnbfaaGreatDoor
open Go.Sy Go.RowKit

set_option maxRecDepth 1000000

theorem own : ownKnob Tryz.prog.godebug = none := by kernel_rfl
theorem plain : Plain Tryz.prog := .of (by kernel_rfl) (by kernel_rfl)

theorem lives_runs : allTrue (evFn Tryz.prog kw0 10 30 26 [] (mem0 []) pc0) = true := by kernel_rfl

theorem lives_calls (w : World) (hw : ∀ x ∈ ([] : List (Nat × List V)), x.1 < 4096 ∧ BlkR (cx0 fun _ => 0) w (x.1, 0) (.cells x.2 false false none)) :
    Calls Tryz.prog 26 #[] w fun e w' => e = .returned (.bool true) ∧ Below w.heap.size w w' :=
  closed_ok plain kw0_ok lives_runs w hw

noncomputable def kwH : Kw := kwTrue 26 [] kw0
theorem kwH_ok (ρ : Nat → Int) : KwOK Tryz.prog ρ kwH := kwTrue_ok (callable plain (by kernel_rfl)) kw0_ok (by kernel_rfl) lives_calls

def errPa : List Pa := [.leaf (.int .u8), .agg [.int .i8, .int .i8], .leaf .bool]
noncomputable def errPc (r : (Int × Int) × (Int × Int) × (Int × Int)) : Pc := ⟨[], [r.1, r.2.1, r.2.2, (0, 1)]⟩
noncomputable def errRun (r : (Int × Int) × (Int × Int) × (Int × Int)) : Bool := allTrue (evFn Tryz.prog kwH 10 30 3 (paV errPa 0 0) (mem1 [] errPa) (errPc r))

end Go.Proofs.YtgjhgbhoidnbfaaGreatDoor
