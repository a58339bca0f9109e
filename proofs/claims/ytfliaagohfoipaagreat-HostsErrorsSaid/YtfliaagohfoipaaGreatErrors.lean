/-
  What is proved here: plugboardlaw26.HostsErrors returns true for every input.
  Conditions: none.
-/
import Derived.Test.YtfliaagohfoipaaGreatEEnd
import Derived.Test.YtfliaagohfoipaaGreatERounds
import Derived.Test.YtfliaagohfoipaaGreatEFacts
namespace Go.Proofs.YtfliaagohfoipaaGreat
open Go.Sy Go.RowKit Go.ChangeShapes Go.WideShapes Go.ChangeAt

set_option maxRecDepth 1000000

theorem one_cover {p : Pc} {J : (Nat → Int) → Prop} : ∀ ρ, J ρ → PcR ρ p → ∃ q ∈ [p], PcR ρ q := fun _ _ h => ⟨_, .head _, h⟩
theorem one_run {p : Pc} {f : Pc → Bool} (h : f p = true) : ∀ q ∈ [p], f q = true := fun q hq => by
  simp only [List.mem_singleton] at hq
  subst hq; exact h

def erFs : List (List (Nat × Int × Int)) := [[(3, 0, 0)], [(3, 2, 2)], [(3, 4, 255)], [(3, 1, 1), (5, -9223372036854775808, 0)], [(3, 1, 1), (5, 257, 9223372036854775807)], [(3, 3, 3), (5, -9223372036854775808, 0)], [(3, 3, 3), (5, 257, 9223372036854775807)],
  [(3, 1, 1), (5, 256, 256), (6, 0, 0)], [(3, 1, 1), (5, 256, 256), (6, 2, 255)], [(3, 1, 1), (5, 256, 256), (6, 1, 1), (4, -9223372036854775808, 500)], [(3, 1, 1), (5, 256, 256), (6, 1, 1), (4, 501, 700)], [(3, 1, 1), (5, 256, 256), (6, 1, 1), (4, 701, 900)], [(3, 1, 1), (5, 256, 256), (6, 1, 1), (4, 901, 9223372036854775807)]]
noncomputable def erLs : List (List (Nat × Int × Int)) := erFs ++ (List.range 255).map (rV 1) ++ (List.range 256).map (rV 3)

theorem er_heads : ∀ l ∈ erLs, headM l = true := by
  intro l hl
  rcases List.mem_append.1 hl with hl | hl
  · rcases List.mem_append.1 hl with hl | hl
    · exact (show ∀ l ∈ erFs, headM l = true by
        simp only [erFs, List.forall_mem_cons]
        exact ⟨er_h0, er_h2, er_h4, er_h1a, er_h1b, er_h3a, er_h3b, er_m0, er_m1, er_m2, er_m3, er_m4, er_m5, fun _ h => nomatch h⟩) l hl
    · obtain ⟨v, hv, rfl⟩ := List.mem_map.1 hl
      exact er_one v (List.mem_range.1 hv)
  · obtain ⟨v, hv, rfl⟩ := List.mem_map.1 hl
    exact er_three v (List.mem_range.1 hv)

theorem setRng_get : ∀ {rng : List (Int × Int)} {i j : Nat} {f : Int × Int → Int × Int}, (setRng rng i f)[j]? = (rng[j]?).map fun r => if i = j then f r else r
  | [], i, j, f => by simp [setRng]
  | x :: l, 0, 0, f => by simp [setRng]
  | x :: l, 0, j + 1, f => by simp [setRng]
  | x :: l, i + 1, 0, f => by simp [setRng]
  | x :: l, i + 1, j + 1, f => by
    have := setRng_get (rng := l) (i := i) (j := j) (f := f)
    simpa [setRng] using this

theorem setRng_R {ρ : Nat → Int} {rng : List (Int × Int)} {k : Nat} {a b : Int} (hr : ∀ i lo hi, rng[i]? = some (lo, hi) → lo ≤ ρ i ∧ ρ i ≤ hi) (h : a ≤ ρ k ∧ ρ k ≤ b) :
    ∀ i lo hi, (setRng rng k fun _ => (a, b))[i]? = some (lo, hi) → lo ≤ ρ i ∧ ρ i ≤ hi := by
  intro i lo hi hi'
  rw [setRng_get] at hi'
  cases hg : rng[i]? with
  | none => rw [hg] at hi'; simp at hi'
  | some r =>
    rw [hg] at hi'
    by_cases e : k = i
    · subst e; simp at hi'; omega
    · simp [e] at hi'
      exact hr i lo hi (by rw [hg, hi'])

theorem rngs_R {ρ : Nat → Int} {r : List (Int × Int)} (hr : ∀ i lo hi, r[i]? = some (lo, hi) → lo ≤ ρ i ∧ ρ i ≤ hi) : ∀ {l : List (Nat × Int × Int)}, (∀ x ∈ l, x.2.1 ≤ ρ x.1 ∧ ρ x.1 ≤ x.2.2) →
    ∀ i lo hi, (rngs l r)[i]? = some (lo, hi) → lo ≤ ρ i ∧ ρ i ≤ hi
  | [], _ => hr
  | x :: _, h => setRng_R (rngs_R hr fun y hy => h y (.tail _ hy)) (h x (.head _))

theorem er_cover {J : (Nat → Int) → Prop} : ∀ ρ, J ρ → PcR ρ ⟨[], paR erPa⟩ → ∃ q ∈ erLs.map erQ, PcR ρ q := by
  intro ρ _ hp
  have hr := hp.rng
  have h3 := hr 3 0 255 (by rfl)
  have h5 := hr 5 (-9223372036854775808) 9223372036854775807 (by rfl)
  have key : ∀ l, l ∈ erLs → (∀ x ∈ l, x.2.1 ≤ ρ x.1 ∧ ρ x.1 ≤ x.2.2) → ∃ q ∈ erLs.map erQ, PcR ρ q := fun l hm h => ⟨_, List.mem_map.2 ⟨l, hm, rfl⟩, fun d hd => (nomatch hd), rngs_R hr h⟩
  have one : ∀ k : Int × Int, (k.1 ≤ ρ 3 ∧ ρ 3 ≤ k.2) → [(3, k)] ∈ erLs → ∃ q ∈ erLs.map erQ, PcR ρ q := fun k hk hm => key _ hm (by
    simp only [List.forall_mem_cons]
    exact ⟨hk, fun _ h => nomatch h⟩)
  have two : ∀ k p : Int × Int, (k.1 ≤ ρ 3 ∧ ρ 3 ≤ k.2) → (p.1 ≤ ρ 5 ∧ ρ 5 ≤ p.2) → [(3, k), (5, p)] ∈ erLs → ∃ q ∈ erLs.map erQ, PcR ρ q := fun k p hk hp hm => key _ hm (by
    simp only [List.forall_mem_cons]
    exact ⟨hk, hp, fun _ h => nomatch h⟩)
  have first : ∀ l, l ∈ erFs → l ∈ erLs := fun l h => List.mem_append_left _ (List.mem_append_left _ h)
  have h6 := hr 6 0 255 (by rfl)
  have h4 := hr 4 (-9223372036854775808) 9223372036854775807 (by rfl)
  have three : ∀ k p t : Int × Int, (k.1 ≤ ρ 3 ∧ ρ 3 ≤ k.2) → (p.1 ≤ ρ 5 ∧ ρ 5 ≤ p.2) → (t.1 ≤ ρ 6 ∧ ρ 6 ≤ t.2) → [(3, k), (5, p), (6, t)] ∈ erLs → ∃ q ∈ erLs.map erQ, PcR ρ q := fun k p t hk hp ht hm => key _ hm (by
    simp only [List.forall_mem_cons]
    exact ⟨hk, hp, ht, fun _ h => nomatch h⟩)
  have four : ∀ k p t u : Int × Int, (k.1 ≤ ρ 3 ∧ ρ 3 ≤ k.2) → (p.1 ≤ ρ 5 ∧ ρ 5 ≤ p.2) → (t.1 ≤ ρ 6 ∧ ρ 6 ≤ t.2) → (u.1 ≤ ρ 4 ∧ ρ 4 ≤ u.2) → [(3, k), (5, p), (6, t), (4, u)] ∈ erLs → ∃ q ∈ erLs.map erQ, PcR ρ q := fun k p t u hk hp ht hu hm => key _ hm (by
    simp only [List.forall_mem_cons]
    exact ⟨hk, hp, ht, hu, fun _ h => nomatch h⟩)
  rcases (by omega : (0 ≤ ρ 3 ∧ ρ 3 ≤ 0) ∨ (1 ≤ ρ 3 ∧ ρ 3 ≤ 1) ∨ (2 ≤ ρ 3 ∧ ρ 3 ≤ 2) ∨ (3 ≤ ρ 3 ∧ ρ 3 ≤ 3) ∨ (4 ≤ ρ 3 ∧ ρ 3 ≤ 255)) with h | h | h | h | h
  · exact one (0, 0) h (first _ (by simp [erFs]))
  · rcases (by omega : (-9223372036854775808 ≤ ρ 5 ∧ ρ 5 ≤ 0) ∨ (257 ≤ ρ 5 ∧ ρ 5 ≤ 9223372036854775807) ∨ (1 ≤ ρ 5 ∧ ρ 5 ≤ 255) ∨ (256 ≤ ρ 5 ∧ ρ 5 ≤ 256)) with g | g | g | g
    · exact two (1, 1) (-9223372036854775808, 0) h g (first _ (by simp [erFs]))
    · exact two (1, 1) (257, 9223372036854775807) h g (first _ (by simp [erFs]))
    · obtain ⟨v, hv⟩ := Int.eq_ofNat_of_zero_le (show 0 ≤ ρ 5 - 1 by omega)
      exact two (.ofNat 1, .ofNat 1) (.ofNat (v + 1), .ofNat (v + 1)) h ⟨by show ((v + 1 : Nat) : Int) ≤ ρ 5; omega, by show ρ 5 ≤ ((v + 1 : Nat) : Int); omega⟩ (List.mem_append_left _ (List.mem_append_right _ (List.mem_map.2 ⟨v, List.mem_range.2 (by omega), rfl⟩)))
    · rcases (by omega : (0 ≤ ρ 6 ∧ ρ 6 ≤ 0) ∨ (2 ≤ ρ 6 ∧ ρ 6 ≤ 255) ∨ (1 ≤ ρ 6 ∧ ρ 6 ≤ 1)) with t | t | t
      · exact three (1, 1) (256, 256) (0, 0) h g t (first _ (by simp [erFs]))
      · exact three (1, 1) (256, 256) (2, 255) h g t (first _ (by simp [erFs]))
      · rcases (by omega : (-9223372036854775808 ≤ ρ 4 ∧ ρ 4 ≤ 500) ∨ (501 ≤ ρ 4 ∧ ρ 4 ≤ 700) ∨ (701 ≤ ρ 4 ∧ ρ 4 ≤ 900) ∨ (901 ≤ ρ 4 ∧ ρ 4 ≤ 9223372036854775807)) with u | u | u | u
        · exact four (1, 1) (256, 256) (1, 1) (-9223372036854775808, 500) h g t u (first _ (by simp [erFs]))
        · exact four (1, 1) (256, 256) (1, 1) (501, 700) h g t u (first _ (by simp [erFs]))
        · exact four (1, 1) (256, 256) (1, 1) (701, 900) h g t u (first _ (by simp [erFs]))
        · exact four (1, 1) (256, 256) (1, 1) (901, 9223372036854775807) h g t u (first _ (by simp [erFs]))
  · exact one (2, 2) h (first _ (by simp [erFs]))
  · rcases (by omega : (-9223372036854775808 ≤ ρ 5 ∧ ρ 5 ≤ 0) ∨ (257 ≤ ρ 5 ∧ ρ 5 ≤ 9223372036854775807) ∨ (1 ≤ ρ 5 ∧ ρ 5 ≤ 256)) with g | g | g
    · exact two (3, 3) (-9223372036854775808, 0) h g (first _ (by simp [erFs]))
    · exact two (3, 3) (257, 9223372036854775807) h g (first _ (by simp [erFs]))
    · obtain ⟨v, hv⟩ := Int.eq_ofNat_of_zero_le (show 0 ≤ ρ 5 - 1 by omega)
      exact two (.ofNat 3, .ofNat 3) (.ofNat (v + 1), .ofNat (v + 1)) h ⟨by show ((v + 1 : Nat) : Int) ≤ ρ 5; omega, by show ρ 5 ≤ ((v + 1 : Nat) : Int); omega⟩ (List.mem_append_right _ (List.mem_map.2 ⟨v, List.mem_range.2 (by omega), rfl⟩))
  · exact one (4, 255) h (first _ (by simp [erFs]))

theorem er_ends (h : Nat) (hh : andB (Nat.blt 511 h) (Nat.blt h 514) = true) : endM h = true := by
  obtain ⟨h1, h2⟩ := andB_ok hh
  rw [blt_iff] at h1 h2
  rcases (by omega : h = 512 ∨ h = 513) with rfl | rfl
  · exact er_e0
  · exact er_e1

theorem er_calls {H : Type} {enc : TypeId × Value → H} {W : World} {base : Nat} {args : Array Value} {ds : List (DataW H)} {ps : List MemPlace} (hval : ∀ (j : Nat) t v, Tryz.f5.params[j]? = some t → args[j]? = some v → Value.okWide Tryz.prog W .any base t v)
    (hA : DataW.TrodAll enc Tryz.prog W 0 (fun _ => true) true Tryz.f5.params.toList args.toList ds ps) : Calls Tryz.prog 5 args W (LawEnd W) := by
  refine law_code1 (g := []) er_pa (by kernel_rfl) Tryz.func5 er_body (by kernel_rfl) hval hA LaidW.nil fun a w h0 => ?_
  rw [er_slots] at h0
  refine head_hds (fn := Tryz.f5) (t := 4) (H := hdM) (d := erPath) (it := 300) plain.mixed cfH_ok (by kernel_rfl) (by kernel_rfl) er_cover (fun q hq => by
    obtain ⟨l, hl, rfl⟩ := List.mem_map.1 hq
    exact er_heads l hl) (fun h a w hh h1 => ?_) (fun a w h => h) h0
  show (place erPath erCode).wp Tryz.prog (Exit.inBlock (cId (place [.r, .r, .r, .r, .r, .r, .r, .r, .r, .l] erCode)) (Exit.then (erRest.wp Tryz.prog _) _)) a w
  rw [er_loop, er_id]
  refine loop_hds (fn := Tryz.f5) (t := 4) (H := hdM) (HX := hdE) (lt := ltM) (it := 300) plain.mixed cfH_ok (by kernel_rfl) (by kernel_rfl) (fun h _ => muM h) (fun h h' r ρ _ _ hl _ _ => (blt_iff _ _).1 hl) (cs := fun h => [(pnMH h).pc]) (fun h _ ρ hp => ⟨_, .head _, hp⟩)
    (fun h hh => one_run (f := fun q => goodT (leafL hdM hdE ltM 0 4 h) (evCode erLoop Tryz.prog cfH 300 193 (pnMH h).env (pnMH h).mem q)) (er_rounds h hh)) (fun h a w hk h2 => ?_) (fun a w h => h) (h := h) hh h1
  show (if (0 : Nat) = 0 then erRest.wp Tryz.prog (bodyPost Tryz.prog Tryz.f5 (LawEnd W)) a w else bodyPost Tryz.prog Tryz.f5 (LawEnd W) (.exit 0) a w)
  rw [if_pos rfl]
  exact end_hds (fn := Tryz.f5) (t := 4) (it := 300) plain.mixed cfH_ok (by kernel_rfl) (by kernel_rfl) one_cover (one_run (er_ends h hk)) h2

theorem he_row (os : Os) (started : os.Started) (H : Type) (enc : TypeId × Value → H) :
    ReturnsInHanded {} Tryz.checked os 5 .any (Rows.hostsErrorsSpec.pre6 enc Tryz.prog Tryz.f5 [] false) (Rows.hostsErrorsSpec.post enc Tryz.prog Tryz.f5 false true false false) := by
  refine law_lifted (C := Tryz.checked) (fn := Tryz.f5) own started he_init Tryz.func5 p_laidOut he_params (tb := 4) (by kernel_rfl) (by kernel_rfl) rfl ?_
    (ChangeSpec.witness6 (enc := enc) (C := Tryz.checked) false ⟨#[], #[.agg #[.int .u8 0, .int .u8 0, .bool false, .int .u8 0, .int .i64 0, .int .i64 0, .int .u8 0, .int .u8 0, .int .u8 0, .bool false, .bool false], .int .i64 0], []⟩ 8 (by as_aux_lemma => kernel_rfl) (by as_aux_lemma => kernel_rfl) (by as_aux_lemma => kernel_rfl) (by as_aux_lemma => kernel_rfl)) ?_
  · intro ds hd
    match ds, hd with
    | [_, _], _ => rfl
  · intro W base args ds ps hval hA _
    exact er_calls hval hA

theorem he_holds : Rows.HostsErrorsSaid :=
  OpenClaim.holds_of_wide 5 Tryz.f5 rfl rfl rfl rfl rfl rfl rfl ⟨rfl, rfl, rfl, rfl, rfl⟩ rfl rfl rfl rfl rfl he_func Tryz.func5 he_joined he_inst he_wrap
    (fun os started H enc _ => he_row os started H enc)
#print axioms he_holds
end Go.Proofs.YtfliaagohfoipaaGreat
