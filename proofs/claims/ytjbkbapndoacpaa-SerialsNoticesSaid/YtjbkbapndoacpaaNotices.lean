/-
  What is proved here: plugboardlaw41.SerialsNotices returns true for every input.
  Conditions: none.
-/
import Derived.Test.YtjbkbapndoacpaaNHead
import Derived.Test.YtjbkbapndoacpaaNRun0
import Derived.Test.YtjbkbapndoacpaaNRun1
import Derived.Test.YtjbkbapndoacpaaNRun2
import Derived.Test.YtjbkbapndoacpaaNRun3
namespace Go.Proofs.Ytjbkbapndoacpaa
open Go.Sy Go.RowKit Go.ChangeShapes Go.WideShapes Go.ChangeAt

set_option maxRecDepth 1000000

theorem one_cover {p : Pc} {J : (Nat → Int) → Prop} : ∀ ρ, J ρ → PcR ρ p → ∃ q ∈ [p], PcR ρ q := fun _ _ h => ⟨_, .head _, h⟩
theorem one_run {p : Pc} {f : Pc → Bool} (h : f p = true) : ∀ q ∈ [p], f q = true := fun q hq => by
  simp only [List.mem_singleton] at hq
  subst hq; exact h

theorem no_rounds (h : Nat) (hh : h < 48) : roundN h = true := by
  have key : ∀ g, g < 4 → ((List.range 12).all fun n => roundN (12 * g + n)) = true
    | 0, _ => no_0
    | 1, _ => no_1
    | 2, _ => no_2
    | 3, _ => no_3
    | _ + 4, e => absurd e (by omega)
  have h1 := List.all_eq_true.1 (key (h / 12) (by omega)) (h % 12) (List.mem_range.2 (by omega))
  rwa [show 12 * (h / 12) + h % 12 = h by omega] at h1

theorem no_calls {H : Type} {enc : TypeId × Value → H} {W : World} {base : Nat} {args : Array Value} {ds : List (DataW H)} {ps : List MemPlace} (hval : ∀ (j : Nat) t v, Try.f3.params[j]? = some t → args[j]? = some v → Value.okWide Try.prog W .any base t v)
    (hA : DataW.TrodAll enc Try.prog W 0 (fun _ => true) true Try.f3.params.toList args.toList ds ps) : Calls Try.prog 3 args W (LawEnd W) := by
  refine law_code1 (g := []) no_pa (by kernel_rfl) Try.func3 no_body (by kernel_rfl) hval hA LaidW.nil fun a w h0 => ?_
  rw [no_slots] at h0
  refine head_hds (fn := Try.f3) (t := 2) (H := hdN) (d := noPath) (it := 10) plain.mixed cfN_ok (by kernel_rfl) (by kernel_rfl) one_cover (one_run no_head) (fun h a w hh h1 => ?_) (fun a w h => h) h0
  show (place noPath noCode).wp Try.prog (Exit.inBlock (cId (place [.r, .r, .r, .r, .r, .r, .l, .r] noCode)) (Exit.then (noRest.wp Try.prog _) _)) a w
  rw [no_loop, no_id]
  refine loop_hds (fn := Try.f3) (t := 2) (H := hdN) (HX := hdX) (it := 10) plain.mixed cfN_ok (by kernel_rfl) (by kernel_rfl) (muV (fun _ => 0) 3 60) (ltV_ok (by omega) fun h _ => by rfl) (cs := fun h => [(pnH h).pc]) (fun h _ ρ hp => ⟨_, .head _, hp⟩)
    (fun h hh => one_run (f := fun q => goodT (leafL hdN hdX (ltV (fun _ => 0) 3) 0 2 h) (evCode noLoop Try.prog cfN 10 136 (pnH h).env (pnH h).mem q)) (no_rounds h ((blt_iff _ _).1 hh))) (fun h a w _ h2 => ?_) (fun a w h => h) (h := h) hh h1
  show (if (0 : Nat) = 0 then noRest.wp Try.prog (bodyPost Try.prog Try.f3 (LawEnd W)) a w else bodyPost Try.prog Try.f3 (LawEnd W) (.exit 0) a w)
  rw [if_pos rfl]
  exact end_hds (fn := Try.f3) (t := 2) (it := 10) plain.mixed cfN_ok (by kernel_rfl) (by kernel_rfl) one_cover (one_run no_end) h2

theorem notices_lifted (os : Os) (started : os.Started) (H : Type) (enc : TypeId × Value → H) :
    ReturnsInHanded {} Try.checked os 3 .any (Rows.serialsNoticesSpec.pre6 enc Try.prog Try.f3 [] false) (Rows.serialsNoticesSpec.post enc Try.prog Try.f3 false true false false) := by
  refine law_lifted (C := Try.checked) (fn := Try.f3) own started (by kernel_rfl) Try.func3 laidOut (by kernel_rfl) (tb := 4) (by kernel_rfl) (by kernel_rfl) rfl ?_
    (ChangeSpec.witness6 (enc := enc) (C := Try.checked) false ⟨#[], #[.slice none 0 0], []⟩ 8 (by kernel_rfl) (by kernel_rfl) (by kernel_rfl) (by kernel_rfl)) ?_
  · intro ds hd
    match ds, hd with
    | [_], _ => rfl
  · intro W base args ds ps hval hA _
    exact no_calls hval hA

theorem notices_holds : Rows.SerialsNoticesSaid :=
  OpenClaim.holds_of_wide 3 Try.f3 rfl rfl rfl rfl rfl rfl rfl ⟨rfl, rfl, rfl, rfl, rfl⟩ rfl rfl rfl rfl rfl (by kernel_rfl) Try.func3 (by kernel_rfl)
    (of_decide_eq_true (by kernel_rfl)) (by unfold Func.isWrapper; first | (rw [if_pos (by decide +kernel)]; kernel_rfl) | (rw [if_neg (by decide +kernel)]; exact ⟨rfl, rfl⟩))
    (fun os started H enc _ => notices_lifted os started H enc)
#print axioms notices_holds
end Go.Proofs.Ytjbkbapndoacpaa
