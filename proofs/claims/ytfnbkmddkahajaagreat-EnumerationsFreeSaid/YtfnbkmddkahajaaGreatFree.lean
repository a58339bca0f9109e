/-
  What is proved here: plugboardlaw21.EnumerationsFree returns true for every input.
  Conditions: none.
-/
import Derived.Test.YtfnbkmddkahajaaGreatFLaw
import Derived.Test.YtfnbkmddkahajaaGreatEFacts
import Derived.ProofKit
namespace Go.Proofs.YtfnbkmddkahajaaGreat
open Go.Sy Go.RowKit Go.ChangeShapes Go.WideShapes Go.ChangeAt

set_option maxRecDepth 1000000

theorem own : ownKnob Tryz.prog.godebug = none := by kernel_rfl
theorem plain : Plain Tryz.prog := .of (by kernel_rfl) (by kernel_rfl)
theorem lives_runs : allTrue (evFn Tryz.prog kw0 10 30 4 [] (mem0 []) pc0) = true := by kernel_rfl
theorem lives_calls (w : World) : Calls Tryz.prog 4 #[] w (End3 w) := closed_ok plain kw0_ok lives_runs w LaidW.nil
theorem cells5 : Tryz.prog.cellsOf 5 = 1 := by kernel_rfl

theorem u8_range {n : Int} (h : (Lit.int .u8 n).wf = true) : 0 ≤ n ∧ n ≤ 255 := by
  have h1 : IntKind.u8.min = 0 := rfl
  have h2 : IntKind.u8.max = 255 := rfl
  simp only [Lit.wf, Bool.and_eq_true, decide_eq_true_eq] at h
  omega

theorem ef_calls {H : Type} {enc : TypeId × Value → H} {W : World} {base : Nat} {args : Array Value} {ds : List (DataW H)} {ps : List MemPlace} (hval : ∀ (j : Nat) t v, Tryz.f3.params[j]? = some t → args[j]? = some v → Value.okWide Tryz.prog W .any base t v)
    (hA : DataW.TrodAll enc Tryz.prog W 0 (fun _ => true) true Tryz.f3.params.toList args.toList ds ps) : Calls Tryz.prog 3 args W (LawEnd W) := by
  have hp : Tryz.f3.params = #[22, 4, 5] := rfl
  rw [hp] at hA hval
  obtain ⟨v0, v1, v2, d0, d1, d2, p0, p1, p2, rfl, rfl, rfl, h0, h1, h2⟩ := trodAll_three hA
  obtain ⟨m, rfl, rfl, rfl, wm⟩ := open_int (k := .u8) rfl (hval 2 5 v2 rfl rfl) h2
  obtain ⟨f, rfl, rfl, rfl⟩ := open_bool rfl (hval 1 4 v1 rfl rfl) h1
  obtain ⟨a0, len, cap, rfl⟩ := okWide_slice (e := 5) rfl (hval 0 22 v0 rfl rfl)
  obtain ⟨fuel, hf⟩ := h0
  rcases open_ints (k := .u8) rfl rfl cells5 hf with ⟨hcs, _⟩ | ⟨a, len', cap', zs, hcs, _, hl, hm, hz, _, hcell, hwz⟩
  · simp [Value.cells] at hcs
    obtain ⟨rfl, rfl, rfl⟩ := hcs
    exact ef_walk lives_calls none 0 0 [] f m W (by omega) (u8_range wm) ⟨rfl, (fun x hx => nomatch hx), .inl ⟨rfl, rfl, rfl⟩⟩
  · simp [Value.cells] at hcs
    obtain ⟨rfl, rfl, rfl⟩ := hcs
    have hzl : len ≤ zs.length := by split at hz <;> omega
    unfold maxLen at hm
    refine ef_walk lives_calls (some a) len cap (zs.take len) f m W (by omega) (u8_range wm) ⟨by rw [List.length_take]; omega, fun x hx => u8_range (hwz x (List.mem_of_mem_take hx)), .inr ⟨a, rfl, fun j u hu => ?_⟩⟩
    have hj : j < len := by
      rcases Nat.lt_or_ge j len with h | h
      · exact h
      · rw [List.getElem?_eq_none (by rw [List.length_take]; omega)] at hu
        cases hu
    rw [List.getElem?_take, if_pos hj] at hu
    have hc := hcell j (by omega)
    rwa [List.getD_eq_getElem?_getD, hu] at hc

theorem ef_row (os : Os) (started : os.Started) (H : Type) (enc : TypeId × Value → H) :
    ReturnsInHanded {} Tryz.checked os 3 .any (Rows.enumerationsFreeSpec.pre6 enc Tryz.prog Tryz.f3 [] false) (Rows.enumerationsFreeSpec.post enc Tryz.prog Tryz.f3 false true false false) := by
  refine law_lifted (C := Tryz.checked) (fn := Tryz.f3) own started ef_init Tryz.func3 p_laidOut ef_params (tb := 4) (by kernel_rfl) (by kernel_rfl) rfl ?_
    (ChangeSpec.witness6 (enc := enc) (C := Tryz.checked) false ⟨#[], #[.slice none 0 0, .bool false, .int .u8 0], []⟩ 8 (by as_aux_lemma => kernel_rfl) (by as_aux_lemma => kernel_rfl) (by as_aux_lemma => kernel_rfl) (by as_aux_lemma => kernel_rfl)) ?_
  · intro ds hd
    match ds, hd with
    | [_, _, _], _ => rfl
  · intro W base args ds ps hval hA _
    exact ef_calls hval hA

theorem ef_holds : Rows.EnumerationsFreeSaid :=
  OpenClaim.holds_of_wide 3 Tryz.f3 rfl rfl rfl rfl rfl rfl rfl ⟨rfl, rfl, rfl, rfl, rfl⟩ rfl rfl rfl rfl rfl ef_func Tryz.func3 ef_joined ef_inst ef_wrap
    (fun os started H enc _ => ef_row os started H enc)
#print axioms ef_holds
end Go.Proofs.YtfnbkmddkahajaaGreat
