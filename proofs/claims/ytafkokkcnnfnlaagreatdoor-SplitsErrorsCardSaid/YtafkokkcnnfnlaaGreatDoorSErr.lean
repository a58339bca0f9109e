/-
  What is proved here: plugboardlaw22.SplitsErrors returns true for every input.
  Conditions: the tables of unicode/utf8 are laid, which the card ties to the program's text.
-/
import Derived.Test.YtafkokkcnnfnlaaGreatDoorERuns
import Derived.Test.YtafkokkcnnfnlaaGreatDoorEFacts
import Derived.Test.YtafkokkcnnfnlaaGreatDoorCards
import Derived.Test.YtafkokkcnnfnlaaGreatDoorTie
import Derived.Lay
import Derived.MakeChecks
import Derived.SevenTiedAt
namespace Go.Proofs.YtafkokkcnnfnlaaGreatDoor
open Go.Sy Go.RowKit Go.ChangeShapes Go.WideShapes Go.ChangeAt

set_option maxRecDepth 1000000

/-- the laid variables -/
def seLaid : List (String × DataW Unit) := Rows.splitsErrorsRow.laid

theorem err_slots : slots Tryz.f5.ntmps (paV errPa 0 0) = 229 := by kernel_rfl

theorem one_cover {p : Pc} {J : (Nat → Int) → Prop} : ∀ ρ, J ρ → PcR ρ p → ∃ q ∈ [p], PcR ρ q := fun _ _ h => ⟨_, .head _, h⟩
theorem one_run {p : Pc} {f : Pc → Bool} (h : f p = true) : ∀ q ∈ [p], f q = true := fun q hq => by
  simp only [List.mem_singleton] at hq
  subst hq; exact h

theorem setRng_get : ∀ {rng : List (Int × Int)} {i j : Nat} {f : Int × Int → Int × Int}, (setRng rng i f)[j]? = (rng[j]?).map fun r => if i = j then f r else r
  | [], i, j, f => by simp [setRng]
  | x :: l, 0, 0, f => by simp [setRng]
  | x :: l, 0, j + 1, f => by simp [setRng]
  | x :: l, i + 1, 0, f => by simp [setRng]
  | x :: l, i + 1, j + 1, f => by
    have := setRng_get (rng := l) (i := i) (j := j) (f := f)
    simpa [setRng] using this

theorem setRng_R {ρ : Nat → Int} {rng : List (Int × Int)} {k : Nat} {a b : Int} (hr : ∀ i lo hi, rng[i]? = some (lo, hi) → lo ≤ ρ i ∧ ρ i ≤ hi) (h : a ≤ ρ k ∧ ρ k ≤ b) :
    ∀ i lo hi, (setRng rng k fun _ => (a, b))[i]? = some (lo, hi) → lo ≤ ρ i ∧ ρ i ≤ hi := by
  intro i lo hi hi'
  rw [setRng_get] at hi'
  cases hg : rng[i]? with
  | none => rw [hg] at hi'; simp at hi'
  | some r =>
    rw [hg] at hi'
    by_cases e : k = i
    · subst e; simp at hi'; omega
    · simp [e] at hi'
      exact hr i lo hi (by rw [hg, hi'])

theorem err_cover {J : (Nat → Int) → Prop} : ∀ ρ, J ρ → PcR ρ ⟨[], paR errPa⟩ → ∃ q ∈ errQs, PcR ρ q := by
  intro ρ _ hp
  have hr := hp.rng
  have g10 := hr 10 0 9223372036854775807 (by rfl)
  by_cases h6 : ρ 6 = 1
  · by_cases h10 : ρ 10 ≤ 40
    · obtain ⟨n, hn⟩ := Int.eq_ofNat_of_zero_le g10.1
      refine ⟨errOut n, List.mem_cons_of_mem _ (List.mem_cons_of_mem _ (List.mem_map.2 ⟨n, List.mem_range.2 (by omega), rfl⟩)), fun d hd => by simp [errOut] at hd, ?_⟩
      exact setRng_R (setRng_R hr ⟨by omega, by omega⟩) ⟨by rw [hn]; exact Int.le_refl _, by rw [hn]; exact Int.le_refl _⟩
    · refine ⟨errMany, List.mem_cons_of_mem _ (.head _), fun d hd => by simp [errMany] at hd, ?_⟩
      exact setRng_R (setRng_R hr ⟨by omega, by omega⟩) ⟨by omega, by omega⟩
  · refine ⟨errNo, .head _, fun d hd => ?_, hr⟩
    simp only [errNo, List.mem_singleton] at hd
    subst hd
    show (ρ 6 == 1) = false
    simpa using h6

theorem err_calls {H : Type} {enc : TypeId × Value → H} {W : World} {base : Nat} {args : Array Value} {ds : List (DataW H)} {ps : List MemPlace} (hval : ∀ (j : Nat) t v, Tryz.f5.params[j]? = some t → args[j]? = some v → Value.okWide Tryz.prog W .any base t v)
    (hA : DataW.TrodAll enc Tryz.prog W 0 (fun _ => true) true Tryz.f5.params.toList args.toList ds ps) : Calls Tryz.prog 5 args W (LawEnd W) := by
  refine law_code1 (g := []) err_pa (by kernel_rfl) Tryz.func5 err_body (by kernel_rfl) hval hA LaidW.nil fun a w h0 => ?_
  rw [err_slots] at h0
  refine head_hds (fn := Tryz.f5) (t := 4) (H := hdE) (d := errPath) (it := 10) plain.mixed cfD_ok (by kernel_rfl) (by kernel_rfl) err_cover (fun q hq => err_heads q hq) (fun h a w _ h1 => ?_) (fun a w h => h) h0
  show errRest.wp Tryz.prog (bodyPost Tryz.prog Tryz.f5 (LawEnd W)) a w
  exact end_hds (fn := Tryz.f5) (t := 4) (it := 10) plain.mixed cfD_ok (by kernel_rfl) (by kernel_rfl) one_cover (one_run err_end) h1

theorem se_row (os : Os) (started : os.Started) (H : Type) (enc : TypeId × Value → H) :
    ReturnsInHanded {} Tryz.checked os 5 .any (fun w args => (Rows.splitsErrorsSpec.pre enc Tryz.prog Tryz.f5 [] false w args ∧ laidMetH Tryz.prog seLaid w) ∧ sizedMet enc Tryz.prog Tryz.f5 (OpenSpec.ofChange Rows.splitsErrorsSpec) false w args)
      (Rows.splitsErrorsSpec.post enc Tryz.prog Tryz.f5 false true false false) := by
  refine law_lifted_laid (C := Tryz.checked) (fn := Tryz.f5) (tb := 4) own started se_init Tryz.func5 p_laidOut se_params (by kernel_rfl) (by kernel_rfl) rfl ?_
    (ChangeSpec.witness_shaped (enc := enc) (C := Tryz.checked) (os := os) (X := fun w _ => laidMetH Tryz.prog seLaid w) false (World.laidAll Tryz.prog os seLaid)
      #[.agg #[.int .u8 0, .int .u8 0, .bool false, .int .u8 0, .int .u8 0, .int .u8 0, .int .u8 0, .bool false, .bool false, .int .i64 0, .slice none 0 0], .int .u8 0] 8 (World.laidAll_os _ _ _) (World.shaped_of_ZipB (by as_aux_lemma => kernel_rfl) (by as_aux_lemma => kernel_rfl)) (by as_aux_lemma => kernel_rfl) (by as_aux_lemma => kernel_rfl) (by as_aux_lemma => kernel_rfl)
      (by rw [MakeChecks.laidMetH_plain _ _ _ (by kernel_rfl)]; exact laidMet_laidAll _ (by as_aux_lemma => kernel_rfl) (by as_aux_lemma => kernel_rfl))) ?_
  · intro ds hd
    match ds, hd with
    | [_, _], _ => rfl
  · intro W base args ds ps hval hA _ _
    exact err_calls hval hA

theorem se_holds : Rows.SplitsErrorsSaid :=
  OpenClaim.holds_of_wide 5 Tryz.f5 rfl rfl rfl rfl rfl rfl rfl ⟨rfl, rfl, rfl, rfl, rfl⟩ rfl rfl rfl rfl rfl se_func Tryz.func5 se_joined se_inst se_wrap
    (fun os started H enc _ => se_row os started H enc)

theorem se_card : Rows.SplitsErrorsCardSaid :=
  Claim7.holds_tied_plain_at .later [] [.data, .pinned] true (true, "75a790aaf3a4542bb34ef3ee32452b1630513ef21e2093feda86a2bfda5a4539") true
    se_holds (fun _ h => by cases h) (by as_aux_lemma => kernel_rfl) (fun _ h => by cases h) splitsErrors_row_tie rfl ⟨rfl, rfl⟩ (by as_aux_lemma => kernel_rfl) rfl
    (fun f fn hf hfn => by
      obtain rfl : f = 5 := Option.some.inj (se_func.symm.trans hf) |>.symm
      obtain rfl : fn = Tryz.f5 := (Option.some.inj (Tryz.func5.symm.trans hfn)).symm
      exact ⟨by as_aux_lemma => kernel_rfl, fun j t ht => by
        have hm : t ∈ Tryz.f5.params.toList := by simpa using Array.mem_of_getElem? ht
        exact (show Tryz.prog.wantsStandIn t = false by simpa using List.all_eq_true.1 se_standIn t hm)⟩)
    (by as_aux_lemma => kernel_rfl)
#print axioms se_card
end Go.Proofs.YtafkokkcnnfnlaaGreatDoor
