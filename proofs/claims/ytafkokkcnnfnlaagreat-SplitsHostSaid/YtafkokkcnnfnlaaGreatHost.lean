/-
  What is proved here: plugboardlaw22.SplitsHost returns true for every input.
  Conditions: none.
-/
import Derived.Test.YtafkokkcnnfnlaaGreatHHead
import Derived.Test.YtafkokkcnnfnlaaGreatHRun0
import Derived.Test.YtafkokkcnnfnlaaGreatHRun1
import Derived.Test.YtafkokkcnnfnlaaGreatHRun2
import Derived.Test.YtafkokkcnnfnlaaGreatHRun3
import Derived.Test.YtafkokkcnnfnlaaGreatHRun4
import Derived.Test.YtafkokkcnnfnlaaGreatHRun5
import Derived.Test.YtafkokkcnnfnlaaGreatHRun6
import Derived.Test.YtafkokkcnnfnlaaGreatHRun7
import Derived.Test.YtafkokkcnnfnlaaGreatHostFacts
namespace Go.Proofs.YtafkokkcnnfnlaaGreat
open Go.Sy Go.RowKit Go.ChangeShapes Go.WideShapes Go.ChangeAt

set_option maxRecDepth 1000000

theorem rounds_all (h : Nat) (hh : h < 984) : roundS h = true := by
  have key : ∀ g, g < 24 → ((List.range 41).all fun n => roundS (g * 41 + n)) = true
    | 0, _ => rounds_0_0
    | 1, _ => rounds_0_1
    | 2, _ => rounds_0_2
    | 3, _ => rounds_1_0
    | 4, _ => rounds_1_1
    | 5, _ => rounds_1_2
    | 6, _ => rounds_2_0
    | 7, _ => rounds_2_1
    | 8, _ => rounds_2_2
    | 9, _ => rounds_3_0
    | 10, _ => rounds_3_1
    | 11, _ => rounds_3_2
    | 12, _ => rounds_4_0
    | 13, _ => rounds_4_1
    | 14, _ => rounds_4_2
    | 15, _ => rounds_5_0
    | 16, _ => rounds_5_1
    | 17, _ => rounds_5_2
    | 18, _ => rounds_6_0
    | 19, _ => rounds_6_1
    | 20, _ => rounds_6_2
    | 21, _ => rounds_7_0
    | 22, _ => rounds_7_1
    | 23, _ => rounds_7_2
    | _ + 24, e => absurd e (by omega)
  have h1 := List.all_eq_true.1 (key (h / 41) (by omega)) (h % 41) (List.mem_range.2 (by omega))
  rwa [show h / 41 * 41 + h % 41 = h by omega] at h1

theorem host_id : cId (place [.r, .r, .r, .r, .r, .r, .r, .r, .r, .r, .l, .r] hostCode) = 0 := by kernel_rfl
theorem host_slots : slots Tryz.f3.ntmps (paV hostPa 0 0) = 258 := by kernel_rfl

theorem one_cover {p : Pc} {J : (Nat → Int) → Prop} : ∀ ρ, J ρ → PcR ρ p → ∃ q ∈ [p], PcR ρ q := fun _ _ h => ⟨_, .head _, h⟩
theorem one_run {p : Pc} {f : Pc → Bool} (h : f p = true) : ∀ q ∈ [p], f q = true := fun q hq => by
  simp only [List.mem_singleton] at hq
  subst hq; exact h

theorem host_cover {J : (Nat → Int) → Prop} : ∀ ρ, J ρ → PcR ρ ⟨[], paR hostPa⟩ → ∃ q ∈ hostQs, PcR ρ q := by
  intro ρ _ hp
  have h0 := hp.rng 0 0 255 rfl
  have h1 := hp.rng 1 0 1 rfl
  have h2 := hp.rng 2 0 9223372036854775807 rfl
  refine ⟨hostQ (ρ 0).toNat (ρ 1).toNat, List.mem_flatMap.2 ⟨(ρ 0).toNat, List.mem_range.2 (by omega), ?_⟩, fun c hc => by simp [hostQ] at hc, ?_⟩
  · rcases (by omega : (ρ 1).toNat = 0 ∨ (ρ 1).toNat = 1) with e | e <;> rw [e] <;> simp
  · intro i lo hi hi'
    match i, hi' with
    | 0, h => simp [hostQ] at h; omega
    | 1, h => simp [hostQ] at h; omega
    | 2, h => simp [hostQ] at h; omega
    | n + 3, h => simp [hostQ] at h

theorem host_calls {H : Type} {enc : TypeId × Value → H} {W : World} {base : Nat} {args : Array Value} {ds : List (DataW H)} {ps : List MemPlace} (hval : ∀ (j : Nat) t v, Tryz.f3.params[j]? = some t → args[j]? = some v → Value.okWide Tryz.prog W .any base t v)
    (hA : DataW.TrodAll enc Tryz.prog W 0 (fun _ => true) true Tryz.f3.params.toList args.toList ds ps) : Calls Tryz.prog 3 args W (LawEnd W) := by
  refine law_code1 (g := []) host_pa (by kernel_rfl) Tryz.func3 host_body (by kernel_rfl) hval hA LaidW.nil fun a w h0 => ?_
  rw [host_slots] at h0
  refine head_hds (fn := Tryz.f3) (t := 6) (H := hdS) (d := hostPath) (it := 10) plain.mixed cfL_ok (by kernel_rfl) (by kernel_rfl) host_cover (fun q hq => List.all_eq_true.1 host_heads q hq) (fun h a w hh h1 => ?_) (fun a w h => h) h0
  show (place hostPath hostCode).wp Tryz.prog (Exit.inBlock (cId (place [.r, .r, .r, .r, .r, .r, .r, .r, .r, .r, .l, .r] hostCode)) (Exit.then (hostRest.wp Tryz.prog _) _)) a w
  rw [host_loop, host_id]
  refine loop_hds (fn := Tryz.f3) (t := 6) (H := hdS) (HX := hdX) (it := 10) plain.mixed cfL_ok (by kernel_rfl) (by kernel_rfl) (fun h _ => 40 - h % 41) (fun h h' r ρ _ _ hl _ _ => (blt_iff _ _).1 hl) (cs := fun h => [(pnH h).pc]) (fun h _ ρ hp => ⟨_, .head _, hp⟩)
    (fun h hh => one_run (f := fun q => goodT (leafL hdS hdX (fun h h' _ => Nat.blt (40 - h' % 41) (40 - h % 41)) 0 6 h) (evCode hostLoop Tryz.prog cfL 10 258 (pnH h).env (pnH h).mem q)) (rounds_all h ((blt_iff _ _).1 hh))) (fun h a w _ h2 => ?_) (fun a w h => h) (h := h) hh h1
  show (if (0 : Nat) = 0 then hostRest.wp Tryz.prog (bodyPost Tryz.prog Tryz.f3 (LawEnd W)) a w else bodyPost Tryz.prog Tryz.f3 (LawEnd W) (.exit 0) a w)
  rw [if_pos rfl]
  exact end_hds (fn := Tryz.f3) (t := 6) (it := 10) plain.mixed cfL_ok (by kernel_rfl) (by kernel_rfl) one_cover (one_run host_end) h2

theorem host_row (os : Os) (started : os.Started) (H : Type) (enc : TypeId × Value → H) :
    ReturnsInHanded {} Tryz.checked os 3 .any (Rows.splitsHostSpec.pre6 enc Tryz.prog Tryz.f3 [] false) (Rows.splitsHostSpec.post enc Tryz.prog Tryz.f3 false true false false) := by
  refine law_lifted (C := Tryz.checked) (fn := Tryz.f3) own started sh_init Tryz.func3 p_laidOut sh_params (tb := 4) (by kernel_rfl) (by kernel_rfl) rfl ?_
    (ChangeSpec.witness6 (enc := enc) (C := Tryz.checked) false ⟨#[], #[.int .u8 0, .bool false, .slice none 0 0], []⟩ 8 (by as_aux_lemma => kernel_rfl) (by as_aux_lemma => kernel_rfl) (by as_aux_lemma => kernel_rfl) (by as_aux_lemma => kernel_rfl)) ?_
  · intro ds hd
    match ds, hd with
    | [_, _, _], _ => rfl
  · intro W base args ds ps hval hA _
    exact host_calls hval hA

theorem host_holds : Rows.SplitsHostSaid :=
  OpenClaim.holds_of_wide 3 Tryz.f3 rfl rfl rfl rfl rfl rfl rfl ⟨rfl, rfl, rfl, rfl, rfl⟩ rfl rfl rfl rfl rfl sh_func Tryz.func3 sh_joined sh_inst sh_wrap
    (fun os started H enc _ => host_row os started H enc)
#print axioms host_holds
end Go.Proofs.YtafkokkcnnfnlaaGreat
