/-
  What is proved here: plugboardlaw18.HubsSplit returns true for every input.
  Conditions: the tables of unicode/utf8 are laid, which the card ties to the program's text.
-/
import Derived.Test.YtafkokkcnnfnlaaGreatDoorSHead
import Derived.Test.YtafkokkcnnfnlaaGreatDoorSRun0
import Derived.Test.YtafkokkcnnfnlaaGreatDoorSRun1
import Derived.Test.YtafkokkcnnfnlaaGreatDoorSRun2
import Derived.Test.YtafkokkcnnfnlaaGreatDoorSRun3
import Derived.Test.YtafkokkcnnfnlaaGreatDoorSRun4
import Derived.Test.YtafkokkcnnfnlaaGreatDoorSRun5
import Derived.Test.YtafkokkcnnfnlaaGreatDoorSRun6
import Derived.Test.YtafkokkcnnfnlaaGreatDoorSRun7
import Derived.Test.YtafkokkcnnfnlaaGreatDoorSFacts
import Derived.Test.YtafkokkcnnfnlaaGreatDoorCards
import Derived.Test.YtafkokkcnnfnlaaGreatDoorTie
import Derived.Lay
import Derived.MakeChecks
import Derived.SevenTiedAt
namespace Go.Proofs.YtafkokkcnnfnlaaGreatDoor
open Go.Sy Go.RowKit Go.ChangeShapes Go.WideShapes Go.ChangeAt

set_option maxRecDepth 1000000

/-- the laid variables -/
def hsLaid : List (String × DataW Unit) := Rows.hubsSplitRow.laid

theorem one_cover {p : Pc} {J : (Nat → Int) → Prop} : ∀ ρ, J ρ → PcR ρ p → ∃ q ∈ [p], PcR ρ q := fun _ _ h => ⟨_, .head _, h⟩
theorem one_run {p : Pc} {f : Pc → Bool} (h : f p = true) : ∀ q ∈ [p], f q = true := fun q hq => by
  simp only [List.mem_singleton] at hq
  subst hq; exact h

theorem sp_rounds (h : Nat) (hh : h < 248) : roundS h = true := by
  have key : ∀ g, g < 8 → ((List.range 31).all fun n => roundS (g * 31 + n)) = true
    | 0, _ => sp_0
    | 1, _ => sp_1
    | 2, _ => sp_2
    | 3, _ => sp_3
    | 4, _ => sp_4
    | 5, _ => sp_5
    | 6, _ => sp_6
    | 7, _ => sp_7
    | _ + 8, e => absurd e (by omega)
  have h1 := List.all_eq_true.1 (key (h / 31) (by omega)) (h % 31) (List.mem_range.2 (by omega))
  rwa [show h / 31 * 31 + h % 31 = h by omega] at h1

theorem sp_heads : ∀ q ∈ [spQ 0, spQ 1], headS q = true := by
  simp only [List.forall_mem_cons]
  exact ⟨sp_head0, sp_head1, fun _ h => nomatch h⟩

theorem sp_cover {J : (Nat → Int) → Prop} : ∀ ρ, J ρ → PcR ρ ⟨[], paR spPa⟩ → ∃ q ∈ [spQ 0, spQ 1], PcR ρ q := by
  intro ρ _ hp
  have h0 := hp.rng 0 0 1 rfl
  have h1 := hp.rng 1 0 9223372036854775807 rfl
  have key : ∀ b : Nat, ρ 0 = (b : Int) → PcR ρ (spQ b) := fun b hb => ⟨fun d hd => by simp [spQ] at hd, fun i lo hi hi' => by
    match i, hi' with
    | 0, h => simp [spQ] at h; omega
    | 1, h => simp [spQ] at h; omega
    | n + 2, h => simp [spQ] at h⟩
  rcases (by omega : ρ 0 = 0 ∨ ρ 0 = 1) with e | e
  · exact ⟨spQ 0, .head _, key 0 e⟩
  · exact ⟨spQ 1, .tail _ (.head _), key 1 e⟩

theorem sp_calls {H : Type} {enc : TypeId × Value → H} {W : World} {base : Nat} {args : Array Value} {ds : List (DataW H)} {ps : List MemPlace} (hval : ∀ (j : Nat) t v, Tryz.f4.params[j]? = some t → args[j]? = some v → Value.okWide Tryz.prog W .any base t v)
    (hA : DataW.TrodAll enc Tryz.prog W 0 (fun _ => true) true Tryz.f4.params.toList args.toList ds ps) : Calls Tryz.prog 4 args W (LawEnd W) := by
  refine law_code1 (g := []) sp_pa (by kernel_rfl) Tryz.func4 sp_body (by kernel_rfl) hval hA LaidW.nil fun a w h0 => ?_
  rw [sp_slots] at h0
  refine head_hds (fn := Tryz.f4) (t := 4) (H := hdS) (d := spPath) (it := 10) plain.mixed cfS_ok (by kernel_rfl) (by kernel_rfl) sp_cover (fun q hq => sp_heads q hq) (fun h a w hh h1 => ?_) (fun a w h => h) h0
  show (place spPath spCode).wp Tryz.prog (Exit.inBlock (cId (place [.r, .r, .r, .r, .r, .r, .r, .r, .r, .r, .r, .r, .r, .l, .r] spCode)) (Exit.then (spRest.wp Tryz.prog _) _)) a w
  rw [sp_loop, sp_id]
  refine loop_hds (fn := Tryz.f4) (t := 4) (H := hdS) (HX := hdX) (it := 10) plain.mixed cfS_ok (by kernel_rfl) (by kernel_rfl) (muV (fun _ => 0) 4 30) (ltV_ok (by omega) fun h _ => by rfl) (cs := fun h => [(pnH h).pc]) (fun h _ ρ hp => ⟨_, .head _, hp⟩)
    (fun h hh => one_run (f := fun q => goodT (leafL hdS hdX (ltV (fun _ => 0) 4) 2 4 h) (evCode spLoop Tryz.prog cfS 10 248 (pnH h).env (pnH h).mem q)) (sp_rounds h ((blt_iff _ _).1 hh))) (fun h a w _ h2 => ?_) (fun a w h => h) (h := h) hh h1
  show (if (2 : Nat) = 2 then spRest.wp Tryz.prog (bodyPost Tryz.prog Tryz.f4 (LawEnd W)) a w else bodyPost Tryz.prog Tryz.f4 (LawEnd W) (.exit 2) a w)
  rw [if_pos rfl]
  exact end_hds (fn := Tryz.f4) (t := 4) (it := 10) plain.mixed cfS_ok (by kernel_rfl) (by kernel_rfl) one_cover (one_run sp_end) h2

theorem hs_row (os : Os) (started : os.Started) (H : Type) (enc : TypeId × Value → H) :
    ReturnsInHanded {} Tryz.checked os 4 .any (fun w args => (Rows.hubsSplitSpec.pre enc Tryz.prog Tryz.f4 [] false w args ∧ laidMetH Tryz.prog hsLaid w) ∧ sizedMet enc Tryz.prog Tryz.f4 (OpenSpec.ofChange Rows.hubsSplitSpec) false w args)
      (Rows.hubsSplitSpec.post enc Tryz.prog Tryz.f4 false true false false) := by
  refine law_lifted_laid (C := Tryz.checked) (fn := Tryz.f4) (tb := 4) own started hs_init Tryz.func4 p_laidOut hs_params (by kernel_rfl) (by kernel_rfl) rfl ?_
    (ChangeSpec.witness_shaped (enc := enc) (C := Tryz.checked) (os := os) (X := fun w _ => laidMetH Tryz.prog hsLaid w) false (World.laidAll Tryz.prog os hsLaid)
      #[.bool false, .slice none 0 0] 8 (World.laidAll_os _ _ _) (World.shaped_of_ZipB (by as_aux_lemma => kernel_rfl) (by as_aux_lemma => kernel_rfl)) (by as_aux_lemma => kernel_rfl) (by as_aux_lemma => kernel_rfl) (by as_aux_lemma => kernel_rfl)
      (by rw [MakeChecks.laidMetH_plain _ _ _ (by kernel_rfl)]; exact laidMet_laidAll _ (by as_aux_lemma => kernel_rfl) (by as_aux_lemma => kernel_rfl))) ?_
  · intro ds hd
    match ds, hd with
    | [_, _], _ => rfl
  · intro W base args ds ps hval hA _ _
    exact sp_calls hval hA

theorem hs_holds : Rows.HubsSplitSaid :=
  OpenClaim.holds_of_wide 4 Tryz.f4 rfl rfl rfl rfl rfl rfl rfl ⟨rfl, rfl, rfl, rfl, rfl⟩ rfl rfl rfl rfl rfl hs_func Tryz.func4 hs_joined hs_inst hs_wrap
    (fun os started H enc _ => hs_row os started H enc)

theorem hs_card : Rows.HubsSplitCardSaid :=
  Claim7.holds_tied_plain_at .later [] [.data, .pinned] true (true, "75a790aaf3a4542bb34ef3ee32452b1630513ef21e2093feda86a2bfda5a4539") true
    hs_holds (fun _ h => by cases h) (by as_aux_lemma => kernel_rfl) (fun _ h => by cases h) hubsSplit_row_tie rfl ⟨rfl, rfl⟩ (by as_aux_lemma => kernel_rfl) rfl
    (fun f fn hf hfn => by
      obtain rfl : f = 4 := Option.some.inj (hs_func.symm.trans hf) |>.symm
      obtain rfl : fn = Tryz.f4 := (Option.some.inj (Tryz.func4.symm.trans hfn)).symm
      exact ⟨by as_aux_lemma => kernel_rfl, fun j t ht => by
        have hm : t ∈ Tryz.f4.params.toList := by simpa using Array.mem_of_getElem? ht
        exact (show Tryz.prog.wantsStandIn t = false by simpa using List.all_eq_true.1 hs_standIn t hm)⟩)
    (by as_aux_lemma => kernel_rfl)
#print axioms hs_card
end Go.Proofs.YtafkokkcnnfnlaaGreatDoor
