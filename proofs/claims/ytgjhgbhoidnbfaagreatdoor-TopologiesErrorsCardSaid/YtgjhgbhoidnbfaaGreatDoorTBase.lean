/-
  What is proved here: the closed facts of the program, and: the examples of the chapter hold whenever they are asked.
  Conditions: none.
-/
import Derived.Test.YtgjhgbhoidnbfaaGreatDoorSyM4
import Derived.Test.YtgjhgbhoidnbfaaGreatDoorFacts
namespace Go.Proofs.YtgjhgbhoidnbfaaGreatDoor
open Go.Sy Go.RowKit

set_option maxRecDepth 1000000

theorem t_own : ownKnob Tryz.prog.godebug = none := by kernel_rfl
theorem t_plain : Plain Tryz.prog := .of (by kernel_rfl) (by kernel_rfl)

theorem t_lives_runs : allTrue (evFn Tryz.prog kw0 10 30 41 [] (mem0 []) pc0) = true := by kernel_rfl

theorem t_lives_calls (w : World) (hw : ∀ x ∈ ([] : List (Nat × List V)), x.1 < 4096 ∧ BlkR (cx0 fun _ => 0) w (x.1, 0) (.cells x.2 false false none)) :
    Calls Tryz.prog 41 #[] w fun e w' => e = .returned (.bool true) ∧ Below w.heap.size w w' :=
  closed_ok t_plain kw0_ok t_lives_runs w hw

noncomputable def kwT : Kw := kwTrue 41 [] kw0
theorem kwT_ok (ρ : Nat → Int) : KwOK Tryz.prog ρ kwT := kwTrue_ok (callable t_plain (by kernel_rfl)) kw0_ok (by kernel_rfl) t_lives_calls

def terrPa : List Pa := [.leaf (.int .i64), .agg [.int .u8, .int .u8]]
/-- a part: the number of ports; how many hubs above, below -/
noncomputable def terrPc (r : Int × Int) (a b : Nat) : Pc := ⟨[(.eq (.bin .rem .u8 (.x 1) (.n 5)) (.n (.ofNat a)), true), (.eq (.bin .rem .u8 (.x 2) (.n 6)) (.n (.ofNat b)), true)], setRng (paR terrPa) 0 fun _ => r⟩
noncomputable def terrRunP (r : Int × Int) (a b : Nat) : Bool := allTrue (evFn Tryz.prog kwT 10 30 5 (paV terrPa 0 0) (mem1 [] terrPa) (terrPc r a b))

end Go.Proofs.YtgjhgbhoidnbfaaGreatDoor
