/-
  What is proved here: plugboardlaw26.HostsFrames returns true for every input.
  Conditions: none.
-/
import Derived.Test.YtfliaagohfoipaaGreatRHead
import Derived.Test.YtfliaagohfoipaaGreatRRounds
import Derived.Test.YtfliaagohfoipaaGreatRFacts
namespace Go.Proofs.YtfliaagohfoipaaGreat
open Go.Sy Go.RowKit Go.ChangeShapes Go.WideShapes Go.ChangeAt

set_option maxRecDepth 1000000

theorem one_cover {p : Pc} {J : (Nat → Int) → Prop} : ∀ ρ, J ρ → PcR ρ p → ∃ q ∈ [p], PcR ρ q := fun _ _ h => ⟨_, .head _, h⟩
theorem one_run {p : Pc} {f : Pc → Bool} (h : f p = true) : ∀ q ∈ [p], f q = true := fun q hq => by
  simp only [List.mem_singleton] at hq
  subst hq; exact h

theorem fr_calls {H : Type} {enc : TypeId × Value → H} {W : World} {base : Nat} {args : Array Value} {ds : List (DataW H)} {ps : List MemPlace} (hval : ∀ (j : Nat) t v, Tryz.f4.params[j]? = some t → args[j]? = some v → Value.okWide Tryz.prog W .any base t v)
    (hA : DataW.TrodAll enc Tryz.prog W 0 (fun _ => true) true Tryz.f4.params.toList args.toList ds ps) : Calls Tryz.prog 4 args W (LawEnd W) := by
  refine law_code1 (g := []) fr_pa (by kernel_rfl) Tryz.func4 fr_body (by kernel_rfl) hval hA LaidW.nil fun a w h0 => ?_
  rw [fr_slots] at h0
  refine head_hds (fn := Tryz.f4) (t := 6) (H := hdR) (d := frPath) (it := 14) plain.mixed cfH_ok (by kernel_rfl) (by kernel_rfl) one_cover (one_run fr_head) (fun h a w hh h1 => ?_) (fun a w h => h) h0
  show (place frPath frCode).wp Tryz.prog (Exit.inBlock (cId (place [.r, .r, .r, .r, .r, .r, .r, .r, .r, .r, .l, .r] frCode)) (Exit.then (frRest.wp Tryz.prog _) _)) a w
  rw [fr_loop, fr_id]
  refine loop_hds (fn := Tryz.f4) (t := 6) (H := hdR) (HX := hdE) (lt := ltR) (it := 14) plain.mixed cfH_ok (by kernel_rfl) (by kernel_rfl) (fun h _ => muR h) (fun h h' r ρ _ _ hl _ _ => (blt_iff _ _).1 hl) (cs := fun h => [(pnRH h).pc]) (fun h _ ρ hp => ⟨_, .head _, hp⟩)
    (fun h hh => one_run (f := fun q => goodT (leafL hdR hdE ltR 0 6 h) (evCode frLoop Tryz.prog cfH 14 137 (pnRH h).env (pnRH h).mem q)) (fr_rounds h hh)) (fun h a w hk h2 => ?_) (fun a w h => h) (h := h) hh h1
  show (if (0 : Nat) = 0 then frRest.wp Tryz.prog (bodyPost Tryz.prog Tryz.f4 (LawEnd W)) a w else bodyPost Tryz.prog Tryz.f4 (LawEnd W) (.exit 0) a w)
  rw [if_pos rfl]
  exact end_hds (fn := Tryz.f4) (t := 6) (it := 600) plain.mixed cfH_ok (by kernel_rfl) (by kernel_rfl) one_cover (one_run (fr_end h ((blt_iff _ _).1 hk))) h2

theorem hr_row (os : Os) (started : os.Started) (H : Type) (enc : TypeId × Value → H) :
    ReturnsInHanded {} Tryz.checked os 4 .any (Rows.hostsFramesSpec.pre6 enc Tryz.prog Tryz.f4 [] false) (Rows.hostsFramesSpec.post enc Tryz.prog Tryz.f4 false true false false) := by
  refine law_lifted (C := Tryz.checked) (fn := Tryz.f4) own started hr_init Tryz.func4 p_laidOut hr_params (tb := 4) (by kernel_rfl) (by kernel_rfl) rfl ?_
    (ChangeSpec.witness6 (enc := enc) (C := Tryz.checked) false ⟨#[], #[.int .u8 0, .int .u8 0, .int .u8 0], []⟩ 8 (by as_aux_lemma => kernel_rfl) (by as_aux_lemma => kernel_rfl) (by as_aux_lemma => kernel_rfl) (by as_aux_lemma => kernel_rfl)) ?_
  · intro ds hd
    match ds, hd with
    | [_, _, _], _ => rfl
  · intro W base args ds ps hval hA _
    exact fr_calls hval hA

theorem hr_holds : Rows.HostsFramesSaid :=
  OpenClaim.holds_of_wide 4 Tryz.f4 rfl rfl rfl rfl rfl rfl rfl ⟨rfl, rfl, rfl, rfl, rfl⟩ rfl rfl rfl rfl rfl hr_func Tryz.func4 hr_joined hr_inst hr_wrap
    (fun os started H enc _ => hr_row os started H enc)
#print axioms hr_holds
end Go.Proofs.YtfliaagohfoipaaGreat
