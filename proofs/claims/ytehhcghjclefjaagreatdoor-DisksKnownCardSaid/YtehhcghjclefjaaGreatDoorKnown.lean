/-
  What is proved here: plugboardlaw39.DisksKnown returns true.
  Conditions: the tables of commands and of unicode/utf8 are laid, which the card ties to the program's text.
-/
import Derived.Test.YtehhcghjclefjaaGreatDoorKRnd
import Derived.Test.YtehhcghjclefjaaGreatDoorKFacts
import Derived.Test.YtehhcghjclefjaaGreatDoorCards
import Derived.Test.YtehhcghjclefjaaGreatDoorTie
import Derived.Lay
import Derived.LaidMore
import Derived.MakeChecks
import Derived.SevenTiedAt
namespace Go.Proofs.YtehhcghjclefjaaGreatDoor
open Go.Sy Go.RowKit Go.ChangeShapes Go.WideShapes Go.ChangeAt

set_option maxRecDepth 1000000

theorem d_handles : (dLaid.all fun x => x.2.handleName?.isNone) = true := by kernel_rfl
theorem d_fixed : allL (fun x => fixed x.2) dG = true := by kernel_rfl

theorem kn_calls {H : Type} {enc : TypeId × Value → H} {W : World} {base : Nat} {args : Array Value} {ds : List (DataW H)} {ps : List MemPlace} (hval : ∀ (j : Nat) t v, Tryz.f4.params[j]? = some t → args[j]? = some v → Value.okWide Tryz.prog W .any base t v)
    (hA : DataW.TrodAll enc Tryz.prog W 0 (fun _ => true) true Tryz.f4.params.toList args.toList ds ps) (hw : LaidW W dG) : Calls Tryz.prog 4 args W (LawEnd W) := by
  refine law_code1 (g := dG) kn_pa (by kernel_rfl) Tryz.func4 kn_body d_fixed hval hA hw fun a w h0 => ?_
  rw [kn_slots] at h0
  refine head_hds (fn := Tryz.f4) (t := 0) (H := hdN) (d := knPath) (it := 14) plain.mixed cfK_ok (by kernel_rfl) (by kernel_rfl) one_cover (one_run kn_head) (fun h a w hh h1 => ?_) (fun a w h => h) h0
  show (place knPath knCode).wp Tryz.prog (Exit.inBlock (cId (place [.r, .r, .l, .r] knCode)) (Exit.then (knRest.wp Tryz.prog _) _)) a w
  rw [kn_loop, kn_id]
  refine loop_hds (fn := Tryz.f4) (t := 0) (H := hdN) (HX := hdX) (lt := ltN) (it := 14) plain.mixed cfK_ok (by kernel_rfl) (by kernel_rfl) (fun h _ => 25 - h) (fun h h' r ρ _ _ hl _ _ => (blt_iff _ _).1 hl) (cs := fun h => [(pnN h).pc]) (fun h _ ρ hp => ⟨_, .head _, hp⟩)
    (fun h hh => one_run (f := fun q => goodT (leafL hdN hdX ltN 0 0 h) (evCode knLoop Tryz.prog cfK 14 91 (pnN h).env (pnN h).mem q)) (kn_rounds h (by have := (ble_iff _ _).1 (show Nat.ble h 25 = true from hh); omega))) (fun h a w _ h2 => ?_) (fun a w h => h) (h := h) hh h1
  show (if (0 : Nat) = 0 then knRest.wp Tryz.prog (bodyPost Tryz.prog Tryz.f4 (LawEnd W)) a w else bodyPost Tryz.prog Tryz.f4 (LawEnd W) (.exit 0) a w)
  rw [if_pos rfl]
  exact end_hds (fn := Tryz.f4) (t := 0) (it := 14) plain.mixed cfK_ok (by kernel_rfl) (by kernel_rfl) one_cover (one_run kn_end) h2

theorem dk_row (os : Os) (started : os.Started) (H : Type) (enc : TypeId × Value → H) :
    ReturnsInHanded {} Tryz.checked os 4 .any (fun w args => (Rows.disksKnownSpec.pre enc Tryz.prog Tryz.f4 [] false w args ∧ laidMetH Tryz.prog dLaid w) ∧ sizedMet enc Tryz.prog Tryz.f4 (OpenSpec.ofChange Rows.disksKnownSpec) false w args)
      (Rows.disksKnownSpec.post enc Tryz.prog Tryz.f4 false true false false) := by
  refine law_lifted_laid (C := Tryz.checked) (fn := Tryz.f4) (tb := 4) own started dk_init Tryz.func4 p_laidOut dk_params (by kernel_rfl) (by kernel_rfl) rfl ?_
    (ChangeSpec.witness_shaped (enc := enc) (C := Tryz.checked) (os := os) (X := fun w _ => laidMetH Tryz.prog dLaid w) false (World.laidAll Tryz.prog os dLaid)
      #[] 8 (World.laidAll_os _ _ _) (World.shaped_of_ZipB (by as_aux_lemma => kernel_rfl) (by as_aux_lemma => kernel_rfl)) (by as_aux_lemma => kernel_rfl) (by as_aux_lemma => kernel_rfl) (by as_aux_lemma => kernel_rfl)
      (by rw [MakeChecks.laidMetH_plain _ _ _ (by kernel_rfl)]; exact laidMet_laidAll _ (by as_aux_lemma => kernel_rfl) (by as_aux_lemma => kernel_rfl))) ?_
  · intro ds hd
    match ds, hd with
    | [], _ => rfl
  · intro W base args ds ps hval hA _ hL
    exact kn_calls hval hA (laidMet_ok d_laidG d_handles hL)

theorem dk_holds : Rows.DisksKnownSaid :=
  OpenClaim.holds_of_wide 4 Tryz.f4 rfl rfl rfl rfl rfl rfl rfl ⟨rfl, rfl, rfl, rfl, rfl⟩ rfl rfl rfl rfl rfl dk_func Tryz.func4 dk_joined dk_inst dk_wrap
    (fun os started H enc _ => dk_row os started H enc)

theorem dk_card : Rows.DisksKnownCardSaid :=
  Claim7.holds_tied_plain_at .later [] [.data, .widerDeep, .pinned] true (true, "13410324919aeee95825ce558ff52b7862426e8af88f004f4f19eed8d603e97f") false
    dk_holds (fun _ h => by cases h) (by as_aux_lemma => kernel_rfl) (fun _ h => by cases h) disksKnown_row_tie rfl ⟨rfl, rfl⟩ (by as_aux_lemma => kernel_rfl) rfl
    (fun f fn hf hfn => by
      obtain rfl : f = 4 := Option.some.inj (dk_func.symm.trans hf) |>.symm
      obtain rfl : fn = Tryz.f4 := (Option.some.inj (Tryz.func4.symm.trans hfn)).symm
      exact ⟨by as_aux_lemma => kernel_rfl, fun j t ht => by
        have hm : t ∈ Tryz.f4.params.toList := by simpa using Array.mem_of_getElem? ht
        exact (show Tryz.prog.wantsStandIn t = false by simpa using List.all_eq_true.1 dk_standIn t hm)⟩)
    (by as_aux_lemma => kernel_rfl)
#print axioms dk_card
end Go.Proofs.YtehhcghjclefjaaGreatDoor
