/-
  What is proved here: plugboardlaw20.TopologiesPaths returns true for every input.
  Conditions: the laid tables, which the card ties to the program's text.
-/
import Derived.Test.YthapmkbeolbmiaaDoorPLaw
import Derived.Test.YthapmkbeolbmiaaDoorPTop
import Derived.Test.YthapmkbeolbmiaaDoorSyM5
import Derived.Test.YthapmkbeolbmiaaDoorTFacts
import Derived.Test.YthapmkbeolbmiaaDoorCards
import Derived.Test.YthapmkbeolbmiaaDoorTie
import Derived.ProofKit
import Derived.Lay
import Derived.MakeChecks
import Derived.ChangeMaps5
namespace Go.Proofs.YthapmkbeolbmiaaDoor
open Go.Sy Go.RowKit Go.ChangeShapes Go.WideShapes Go.ChangeAt

set_option maxRecDepth 1000000

theorem own : ownKnob Tryd.prog.godebug = none := by kernel_rfl
theorem plain : Plain Tryd.prog := .of (by kernel_rfl) (by kernel_rfl)
theorem lives_runs : allTrue (evFn Tryd.prog kw0 10 20 5 [] (mem0 []) pc0) = true := by kernel_rfl
theorem lives_calls (w : World) : Calls Tryd.prog 5 #[] w (End3 w) := closed_ok plain kw0_ok lives_runs w LaidW.nil
theorem cells5 : Tryd.prog.cellsOf 5 = 1 := by kernel_rfl

/-- the laid variables -/
def laid : List (String × DataW Unit) := Rows.topologiesPathsRow.laid

theorem u8_range {n : Int} (h : (Lit.int .u8 n).wf = true) : 0 ≤ n ∧ n ≤ 255 := by
  have h1 : IntKind.u8.min = 0 := rfl
  have h2 : IntKind.u8.max = 255 := rfl
  simp only [Lit.wf, Bool.and_eq_true, decide_eq_true_eq] at h
  omega

/-- a slice of bytes among the arguments reads as a list -/
theorem u8_arg {H : Type} {enc : TypeId × Value → H} {W : World} {b : Nat} {sp : Nat → Bool} {held : Bool} {a0 : Option Addr} {len cap : Nat} {d : DataW H} {p : List MemPlace}
    (h : DataW.Trod enc Tryd.prog W b sp held 22 (.slice a0 len cap) d p) : ∃ xs, U8 W a0 len cap xs ∧ len ≤ 9223372036854775807 := by
  obtain ⟨fuel, hf⟩ := h
  rcases open_ints (k := .u8) rfl rfl cells5 hf with ⟨hcs, _⟩ | ⟨a, len', cap', zs, hcs, _, hl, hm, hz, _, hcell, hwz⟩
  · simp [Value.cells] at hcs
    obtain ⟨rfl, rfl, rfl⟩ := hcs
    exact ⟨[], ⟨rfl, (fun x hx => nomatch hx), Nat.le_refl _, .inl ⟨rfl, rfl, rfl⟩⟩, by omega⟩
  · simp [Value.cells] at hcs
    obtain ⟨rfl, rfl, rfl⟩ := hcs
    have hzl : len ≤ zs.length := by split at hz <;> omega
    unfold maxLen at hm
    refine ⟨zs.take len, ⟨by rw [List.length_take]; omega, fun x hx => u8_range (hwz x (List.mem_of_mem_take hx)), hl, .inr ⟨a, rfl, fun j hj => ?_⟩⟩, by omega⟩
    rw [List.getElem?_take, if_pos hj]
    exact hcell j (by omega)

theorem tp_calls {H : Type} {enc : TypeId × Value → H} {W : World} {base : Nat} {args : Array Value} {ds : List (DataW H)} {ps : List MemPlace} (hval : ∀ (j : Nat) t v, Tryd.f3.params[j]? = some t → args[j]? = some v → Value.okWide Tryd.prog W .any base t v)
    (hA : DataW.TrodAll enc Tryd.prog W 0 (fun _ => true) true Tryd.f3.params.toList args.toList ds ps) : Calls Tryd.prog 3 args W (LawEnd W) := by
  have hp : Tryd.f3.params = #[22, 9] := rfl
  rw [hp] at hA hval
  obtain ⟨v0, v1, d0, d1, p0, p1, rfl, rfl, rfl, h0, h1⟩ := trodAll_two hA
  obtain ⟨s, rfl, rfl, rfl, ws⟩ := Go.ChangeMaps.open_string rfl (hval 1 9 v1 rfl rfl) h1
  obtain ⟨a0, n, c, rfl⟩ := okWide_slice (e := 5) rfl (hval 0 22 v0 rfl rfl)
  obtain ⟨xs, hx, hn⟩ := u8_arg h0
  unfold maxLen at ws
  exact paths_walk lives_calls top_any a0 n c xs s W hx hn ws

theorem tp_row (os : Os) (started : os.Started) (H : Type) (enc : TypeId × Value → H) :
    ReturnsInHanded {} Tryd.checked os 3 .any (fun w args => (Rows.topologiesPathsSpec.pre enc Tryd.prog Tryd.f3 [] false w args ∧ laidMetH Tryd.prog laid w) ∧ sizedMet enc Tryd.prog Tryd.f3 (OpenSpec.ofChange Rows.topologiesPathsSpec) false w args)
      (Rows.topologiesPathsSpec.post enc Tryd.prog Tryd.f3 false true false false) := by
  refine law_lifted_laid (C := Tryd.checked) (fn := Tryd.f3) (tb := 4) own started tp_init Tryd.func3 p_laidOut tp_params (by kernel_rfl) (by kernel_rfl) rfl ?_
    (ChangeSpec.witness_shaped (enc := enc) (C := Tryd.checked) (os := os) (X := fun w _ => laidMetH Tryd.prog laid w) false (World.laidAll Tryd.prog os laid)
      #[.slice none 0 0, .string ByteArray.empty] 8 (World.laidAll_os _ _ _) (World.shaped_of_ZipB (by as_aux_lemma => kernel_rfl) (by as_aux_lemma => kernel_rfl)) (by as_aux_lemma => kernel_rfl) (by as_aux_lemma => kernel_rfl) (by as_aux_lemma => kernel_rfl)
      (by rw [MakeChecks.laidMetH_plain _ _ _ (by kernel_rfl)]; exact laidMet_laidAll _ (by as_aux_lemma => kernel_rfl) (by as_aux_lemma => kernel_rfl))) ?_
  · intro ds hd
    match ds, hd with
    | [_, _], _ => rfl
  · intro W base args ds ps hval hA _ _
    exact tp_calls hval hA

theorem tp_holds : Rows.TopologiesPathsSaid :=
  OpenClaim.holds_of_wide 3 Tryd.f3 rfl rfl rfl rfl rfl rfl rfl ⟨rfl, rfl, rfl, rfl, rfl⟩ rfl rfl rfl rfl rfl tp_func Tryd.func3 tp_joined tp_inst tp_wrap
    (fun os started H enc _ => tp_row os started H enc)

theorem tp_card : Rows.TopologiesPathsCardSaid :=
  Claim7.holds_tied_plain_at .later [] [.data, .data, .data, .data, .pinned] true (true, "f36c37924a59f719a3a5d579358fa906f1fec88bcf5bbb6b3c821c0a705074c8") false
    tp_holds (fun _ h => by cases h) (by as_aux_lemma => kernel_rfl) (fun _ h => by cases h) topologiesPaths_row_tie rfl ⟨rfl, rfl⟩ (by as_aux_lemma => kernel_rfl) rfl
    (fun f fn hf hfn => by
      obtain rfl : f = 3 := Option.some.inj (tp_func.symm.trans hf) |>.symm
      obtain rfl : fn = Tryd.f3 := (Option.some.inj (Tryd.func3.symm.trans hfn)).symm
      exact ⟨by as_aux_lemma => kernel_rfl, fun j t ht => by
        have hm : t ∈ Tryd.f3.params.toList := by simpa using Array.mem_of_getElem? ht
        exact (show Tryd.prog.wantsStandIn t = false by simpa using List.all_eq_true.1 tp_standIn t hm)⟩)
    (by as_aux_lemma => kernel_rfl)
#print axioms tp_card
end Go.Proofs.YthapmkbeolbmiaaDoor
