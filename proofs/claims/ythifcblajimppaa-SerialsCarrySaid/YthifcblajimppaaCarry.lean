/-
  What is proved here: plugboardlaw41.SerialsCarry returns true for every input.
  Conditions: none.
-/
import Derived.Test.YthifcblajimppaaDLaw
import Derived.Test.YthifcblajimppaaDArg
import Derived.Test.YthifcblajimppaaRows
import Derived.ProofKit
namespace Go.Proofs.Ythifcblajimppaa
open Go.Sy Go.RowKit Go.ChangeShapes Go.WideShapes Go.ChangeAt
set_option maxRecDepth 1000000
theorem own : ownKnob Try.prog.godebug = none := by kernel_rfl
theorem lives_runs : allTrue (evFn Try.prog kw0 10 20 4 [] (mem0 []) pc0) = true := by kernel_rfl
theorem lives_calls (w : World) : Calls Try.prog 4 #[] w fun e w' => e = .returned (.bool true) ∧ Below w.heap.size w w' := closed_ok plain kw0_ok lives_runs w LaidW.nil
theorem carry_calls {H : Type} {enc : TypeId × Value → H} {W : World} {base : Nat} {args : Array Value} {ds : List (DataW H)} {ps : List MemPlace} (hval : ∀ (j : Nat) t v, Try.f3.params[j]? = some t → args[j]? = some v → Value.okWide Try.prog W .any base t v)
  (hA : DataW.TrodAll enc Try.prog W 0 (fun _ => true) true Try.f3.params.toList args.toList ds ps) : Calls Try.prog 3 args W (LawEnd W) := by
 have hp : Try.f3.params = #[5, 22] := rfl
 rw [hp] at hA hval
 obtain ⟨v0, v1, d0, d1, p0, p1, rfl, rfl, rfl, h0, h1⟩ := trodAll_two hA
 obtain ⟨mk, rfl, rfl, rfl, wm⟩ := open_int (k := .u8) rfl (hval 0 5 v0 rfl rfl) h0
 obtain ⟨a0, len, cap, rfl⟩ := okWide_slice (e := 35) rfl (hval 1 22 v1 rfl rfl)
 obtain ⟨fuel, hf⟩ := h1
 obtain ⟨A, n, c, e, hacts⟩ := acts_open hf
 rw [e]
 exact law_walk lives_calls mk (rng_u8 wm) A n c W hacts
theorem carry_lifted (os : Os) (started : os.Started) (H : Type) (enc : TypeId × Value → H) :
  ReturnsInHanded {} Try.checked os 3 .any (Rows.serialsCarrySpec.pre6 enc Try.prog Try.f3 [] false) (Rows.serialsCarrySpec.post enc Try.prog Try.f3 false true false false) := by
 refine law_lifted (C := Try.checked) (fn := Try.f3) own started (by kernel_rfl) Try.func3 laid_out (by kernel_rfl) (tb := 4) (by kernel_rfl) (by kernel_rfl) rfl ?_
  (ChangeSpec.witness6 (enc := enc) (C := Try.checked) false ⟨#[], #[.int .u8 0, .slice none 0 0], []⟩ 8 (by kernel_rfl) (by kernel_rfl) (by kernel_rfl) (by kernel_rfl)) ?_
 ·intro ds hd
  match ds, hd with
  | [_, _], _ => rfl
 ·intro W base args ds ps hval hA _
  exact carry_calls hval hA
theorem carry_holds : Rows.SerialsCarrySaid :=
 OpenClaim.holds_of_wide 3 Try.f3 rfl rfl rfl rfl rfl rfl rfl ⟨rfl, rfl, rfl, rfl, rfl⟩ rfl rfl rfl rfl rfl (by kernel_rfl) Try.func3 (by kernel_rfl)
  (of_decide_eq_true (by kernel_rfl)) (by unfold Func.isWrapper; first | (rw [if_pos (by decide +kernel)]; kernel_rfl) | (rw [if_neg (by decide +kernel)]; exact ⟨rfl, rfl⟩))
  (fun os started H enc _ => carry_lifted os started H enc)
#print axioms carry_holds
end Go.Proofs.Ythifcblajimppaa
