/-
  What is proved here: plugboardlaw20.TopologiesOrder returns true for every input.
  Conditions: the tables of unicode/utf8 are laid, which the card ties to the program's text.
-/
import Derived.Test.YtfnbkmddkahajaaDoorOLaw
import Derived.Test.YtfnbkmddkahajaaDoorSyM5
import Derived.Test.YtfnbkmddkahajaaDoorCards
import Derived.Test.YtfnbkmddkahajaaDoorTie
import Derived.SevenTiedAt
import Derived.ProofKit
import Derived.Lay
import Derived.MakeChecks
namespace Go.Proofs.YtfnbkmddkahajaaDoor
open Go.Sy Go.RowKit Go.ChangeShapes Go.WideShapes Go.ChangeAt

set_option maxRecDepth 1000000

theorem own : ownKnob Tryd.prog.godebug = none := by kernel_rfl
theorem laidOut : laidOutB Tryd.prog = true := by kernel_rfl
theorem plain : Plain Tryd.prog := .of (by kernel_rfl) (by kernel_rfl)
theorem lives_runs : allTrue (evFn Tryd.prog kw0 10 20 4 [] (mem0 []) pc0) = true := by kernel_rfl
theorem lives_calls (w : World) : Calls Tryd.prog 4 #[] w (End3 w) := closed_ok plain kw0_ok lives_runs w LaidW.nil
theorem cells5 : Tryd.prog.cellsOf 5 = 1 := by kernel_rfl

/-- the laid variables -/
def laid : List (String × DataW Unit) := Rows.topologiesOrderRow.laid

theorem u8_range {n : Int} (h : (Lit.int .u8 n).wf = true) : 0 ≤ n ∧ n ≤ 255 := by
  have h1 : IntKind.u8.min = 0 := rfl
  have h2 : IntKind.u8.max = 255 := rfl
  simp only [Lit.wf, Bool.and_eq_true, decide_eq_true_eq] at h
  omega

/-- a slice of bytes among the arguments reads as a list -/
theorem u8_arg {H : Type} {enc : TypeId × Value → H} {W : World} {b : Nat} {sp : Nat → Bool} {held : Bool} {a0 : Option Addr} {len cap : Nat} {d : DataW H} {p : List MemPlace}
    (h : DataW.Trod enc Tryd.prog W b sp held 22 (.slice a0 len cap) d p) : ∃ xs, U8 W a0 len cap xs ∧ len ≤ 9223372036854775807 := by
  obtain ⟨fuel, hf⟩ := h
  rcases open_ints (k := .u8) rfl rfl cells5 hf with ⟨hcs, _⟩ | ⟨a, len', cap', zs, hcs, _, hl, hm, hz, _, hcell, hwz⟩
  · simp [Value.cells] at hcs
    obtain ⟨rfl, rfl, rfl⟩ := hcs
    exact ⟨[], ⟨rfl, (fun x hx => nomatch hx), Nat.le_refl _, .inl ⟨rfl, rfl, rfl⟩⟩, by omega⟩
  · simp [Value.cells] at hcs
    obtain ⟨rfl, rfl, rfl⟩ := hcs
    have hzl : len ≤ zs.length := by split at hz <;> omega
    unfold maxLen at hm
    refine ⟨zs.take len, ⟨by rw [List.length_take]; omega, fun x hx => u8_range (hwz x (List.mem_of_mem_take hx)), hl, .inr ⟨a, rfl, fun j hj => ?_⟩⟩, by omega⟩
    rw [List.getElem?_take, if_pos hj]
    exact hcell j (by omega)

theorem to_calls {H : Type} {enc : TypeId × Value → H} {W : World} {base : Nat} {args : Array Value} {ds : List (DataW H)} {ps : List MemPlace} (hval : ∀ (j : Nat) t v, Tryd.f3.params[j]? = some t → args[j]? = some v → Value.okWide Tryd.prog W .any base t v)
    (hA : DataW.TrodAll enc Tryd.prog W 0 (fun _ => true) true Tryd.f3.params.toList args.toList ds ps) : Calls Tryd.prog 3 args W (LawEnd W) := by
  have hp : Tryd.f3.params = #[22, 22, 5] := rfl
  rw [hp] at hA hval
  obtain ⟨v0, v1, v2, d0, d1, d2, p0, p1, p2, rfl, rfl, rfl, h0, h1, h2⟩ := trodAll_three hA
  obtain ⟨m, rfl, rfl, rfl, wm⟩ := open_int (k := .u8) rfl (hval 2 5 v2 rfl rfl) h2
  obtain ⟨a0, n, c, rfl⟩ := okWide_slice (e := 5) rfl (hval 0 22 v0 rfl rfl)
  obtain ⟨a1, n1, c1, rfl⟩ := okWide_slice (e := 5) rfl (hval 1 22 v1 rfl rfl)
  obtain ⟨xs, hx, hn⟩ := u8_arg h0
  obtain ⟨ys, hy, hm⟩ := u8_arg h1
  exact to_walk lives_calls a0 a1 n c n1 c1 xs ys m W (u8_range wm) hx hy hn hm

theorem to_lifted (os : Os) (started : os.Started) (H : Type) (enc : TypeId × Value → H) :
    ReturnsInHanded {} Tryd.checked os 3 .any (fun w args => (Rows.topologiesOrderSpec.pre enc Tryd.prog Tryd.f3 [] false w args ∧ laidMetH Tryd.prog laid w) ∧ sizedMet enc Tryd.prog Tryd.f3 (OpenSpec.ofChange Rows.topologiesOrderSpec) false w args)
      (Rows.topologiesOrderSpec.post enc Tryd.prog Tryd.f3 false true false false) := by
  refine law_lifted_laid (C := Tryd.checked) (fn := Tryd.f3) (tb := 4) own started (by kernel_rfl) Tryd.func3 laidOut (by kernel_rfl) (by kernel_rfl) (by kernel_rfl) rfl ?_
    (ChangeSpec.witness_shaped (enc := enc) (C := Tryd.checked) (os := os) (X := fun w _ => laidMetH Tryd.prog laid w) false (World.laidAll Tryd.prog os laid)
      #[.slice none 0 0, .slice none 0 0, .int .u8 0] 8 (World.laidAll_os _ _ _) (World.shaped_of_ZipB (by kernel_rfl) (by kernel_rfl)) (by kernel_rfl) (by kernel_rfl) (by kernel_rfl)
      (by rw [MakeChecks.laidMetH_plain _ _ _ (by kernel_rfl)]; exact laidMet_laidAll _ (by kernel_rfl) (by kernel_rfl))) ?_
  · intro ds hd
    match ds, hd with
    | [_, _, _], _ => rfl
  · intro W base args ds ps hval hA _ _
    exact to_calls hval hA

theorem to_holds : Rows.TopologiesOrderSaid :=
  OpenClaim.holds_of_wide 3 Tryd.f3 rfl rfl rfl rfl rfl rfl rfl ⟨rfl, rfl, rfl, rfl, rfl⟩ rfl rfl rfl rfl rfl (by kernel_rfl) Tryd.func3 (by kernel_rfl)
    (of_decide_eq_true (by kernel_rfl)) (by unfold Func.isWrapper; first | (rw [if_pos (by decide +kernel)]; kernel_rfl) | (rw [if_neg (by decide +kernel)]; exact ⟨rfl, rfl⟩))
    (fun os started H enc _ => to_lifted os started H enc)

theorem to_card : Rows.TopologiesOrderCardSaid :=
  Claim7.holds_tied_plain_at .later [] [.data, .pinned] true (true, "3a9266afe3188931ddfc3c2672779122137226f960552785bbeb522f3f956643") false
    to_holds (fun _ h => by cases h) (by kernel_rfl) (fun _ h => by cases h) topologiesOrder_row_tie rfl ⟨rfl, rfl⟩ (by kernel_rfl) rfl
    (fun f fn hf hfn => by
      obtain rfl : f = 3 := Option.some.inj ((show Tryd.prog.funcNamed Rows.topologiesOrderRow.func = some 3 by kernel_rfl).symm.trans hf) |>.symm
      obtain rfl : fn = Tryd.f3 := (Option.some.inj (Tryd.func3.symm.trans hfn)).symm
      exact ⟨by kernel_rfl, fun j t ht => by
        have hm : t ∈ Tryd.f3.params.toList := by simpa using Array.mem_of_getElem? ht
        have hall : (Tryd.f3.params.toList.all fun u => !Tryd.prog.wantsStandIn u) = true := by kernel_rfl
        exact (show Tryd.prog.wantsStandIn t = false by simpa using List.all_eq_true.1 hall t hm)⟩)
    (by kernel_rfl)
#print axioms to_card
end Go.Proofs.YtfnbkmddkahajaaDoor
