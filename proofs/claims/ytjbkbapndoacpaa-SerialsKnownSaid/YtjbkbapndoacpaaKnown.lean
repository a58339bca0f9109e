/-
  What is proved here: plugboardlaw41.SerialsKnown returns true.
  Conditions: none.
-/
import Derived.Test.YtjbkbapndoacpaaKRnd0
import Derived.Test.YtjbkbapndoacpaaKRnd1
import Derived.Test.YtjbkbapndoacpaaKRnd2
import Derived.Test.YtjbkbapndoacpaaKRnd3
namespace Go.Proofs.Ytjbkbapndoacpaa
open Go.Sy Go.RowKit Go.ChangeShapes Go.WideShapes Go.ChangeAt

set_option maxRecDepth 1000000

theorem kn_rounds : ∀ n, n < 21 → roundK n = true
  | 0, _ => kn_0
  | 1, _ => kn_1
  | 2, _ => kn_2
  | 3, _ => kn_3
  | 4, _ => kn_4
  | 5, _ => kn_5
  | 6, _ => kn_6
  | 7, _ => kn_7
  | 8, _ => kn_8
  | 9, _ => kn_9
  | 10, _ => kn_10
  | 11, _ => kn_11
  | 12, _ => kn_12
  | 13, _ => kn_13
  | 14, _ => kn_14
  | 15, _ => kn_15
  | 16, _ => kn_16
  | 17, _ => kn_17
  | 18, _ => kn_18
  | 19, _ => kn_19
  | 20, _ => kn_20
  | _ + 21, h => absurd h (by omega)

theorem kn_calls {H : Type} {enc : TypeId × Value → H} {W : World} {base : Nat} {args : Array Value} {ds : List (DataW H)} {ps : List MemPlace} (hval : ∀ (j : Nat) t v, Try.f4.params[j]? = some t → args[j]? = some v → Value.okWide Try.prog W .any base t v)
    (hA : DataW.TrodAll enc Try.prog W 0 (fun _ => true) true Try.f4.params.toList args.toList ds ps) : Calls Try.prog 4 args W (LawEnd W) := by
  refine law_code1 (g := []) kn_pa (by kernel_rfl) Try.func4 kn_body (by kernel_rfl) hval hA LaidW.nil fun a w h0 => ?_
  rw [kn_slots] at h0
  refine head_hds (fn := Try.f4) (t := 0) (H := hdR) (d := knPath) (it := 14) plain.mixed cfK_ok (by kernel_rfl) (by kernel_rfl) one_cover (one_run kn_head) (fun h a w hh h1 => ?_) (fun a w h => h) h0
  show (place knPath knCode).wp Try.prog (Exit.inBlock (cId (place [.r, .r, .l, .r] knCode)) (Exit.then (knRest.wp Try.prog _) _)) a w
  rw [kn_loop, kn_id]
  refine loop_hds (fn := Try.f4) (t := 0) (H := hdR) (HX := hdX) (lt := ltR) (it := 14) plain.mixed cfK_ok (by kernel_rfl) (by kernel_rfl) (fun h _ => 20 - h) (fun h h' r ρ _ _ hl _ _ => (blt_iff _ _).1 hl) (cs := fun h => [(pnR h).pc]) (fun h _ ρ hp => ⟨_, .head _, hp⟩)
    (fun h hh => one_run (f := fun q => goodT (leafL hdR hdX ltR 0 0 h) (evCode knLoop Try.prog cfK 14 112 (pnR h).env (pnR h).mem q)) (kn_rounds h (by have := (ble_iff _ _).1 (show Nat.ble h 20 = true from hh); omega))) (fun h a w _ h2 => ?_) (fun a w h => h) (h := h) hh h1
  show (if (0 : Nat) = 0 then knRest.wp Try.prog (bodyPost Try.prog Try.f4 (LawEnd W)) a w else bodyPost Try.prog Try.f4 (LawEnd W) (.exit 0) a w)
  rw [if_pos rfl]
  exact end_hds (fn := Try.f4) (t := 0) (it := 14) plain.mixed cfK_ok (by kernel_rfl) (by kernel_rfl) one_cover (one_run kn_end) h2

theorem known_lifted (os : Os) (started : os.Started) (H : Type) (enc : TypeId × Value → H) :
    ReturnsInHanded {} Try.checked os 4 .any (Rows.serialsKnownSpec.pre6 enc Try.prog Try.f4 [] false) (Rows.serialsKnownSpec.post enc Try.prog Try.f4 false true false false) := by
  refine law_lifted (C := Try.checked) (fn := Try.f4) own started (by kernel_rfl) Try.func4 laidOut (by kernel_rfl) (tb := 4) (by kernel_rfl) (by kernel_rfl) rfl ?_
    (ChangeSpec.witness6 (enc := enc) (C := Try.checked) false ⟨#[], #[], []⟩ 8 (by kernel_rfl) (by kernel_rfl) (by kernel_rfl) (by kernel_rfl)) ?_
  · intro ds hd
    match ds, hd with
    | [], _ => rfl
  · intro W base args ds ps hval hA _
    exact kn_calls hval hA

theorem known_holds : Rows.SerialsKnownSaid :=
  OpenClaim.holds_of_wide 4 Try.f4 rfl rfl rfl rfl rfl rfl rfl ⟨rfl, rfl, rfl, rfl, rfl⟩ rfl rfl rfl rfl rfl (by kernel_rfl) Try.func4 (by kernel_rfl)
    (of_decide_eq_true (by kernel_rfl)) (by unfold Func.isWrapper; first | (rw [if_pos (by decide +kernel)]; kernel_rfl) | (rw [if_neg (by decide +kernel)]; exact ⟨rfl, rfl⟩))
    (fun os started H enc _ => known_lifted os started H enc)
#print axioms known_holds
end Go.Proofs.Ytjbkbapndoacpaa
