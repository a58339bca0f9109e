/-
  What is proved here: the parts cover all inputs of plugboardlaw18.HubsDevice.
  Conditions: none.
-/
import Derived.Test.YtafkokkcnnfnlaaGreatDoorDDefs
namespace Go.Proofs.YtafkokkcnnfnlaaGreatDoor
open Go.Sy Go.RowKit

theorem wquo_den {x : Nat} (hx : x < 256) (d : Nat) : wrapZ .u64 (Int.tdiv (x : Int) (Int.ofNat d)) = ((x / d : Nat) : Int) := by
  have e : Int.tdiv (x : Int) (Int.ofNat d) = ((x / d : Nat) : Int) := (Int.ofNat_tdiv x d).symm
  have h : x / d ≤ x := Nat.div_le_self x d
  rw [e, wrapZ_eq, wrap_in]
  · exact Int.natCast_nonneg _
  · simp only [kMax, limN]; omega

theorem rem_den {ρ : Nat → Int} {e : E} {x : Nat} (h : e.den ρ = (x : Int)) (k : IntKind) (a b : Nat) : (B.eq (.bin .rem k e (.n (.ofNat a))) (.n (.ofNat b))).den ρ = decide (x % a = b) := by
  show ((e.den ρ).tmod (Int.ofNat a) == Int.ofNat b) = _
  rw [h]
  have e1 : (x : Int).tmod (Int.ofNat a) = ((x % a : Nat) : Int) := (Int.ofNat_tmod x a).symm
  rw [e1]
  by_cases hb : x % a = b
  · subst hb; simp
  · rw [decide_eq_false hb, beq_eq_false_iff_ne]
    intro h2; exact hb (Int.ofNat_inj.1 h2)

theorem wrem_ok {ρ : Nat → Int} {e : E} {x : Nat} (h : e.den ρ = (x : Int)) (k : IntKind) (a b : Nat) (hb : x % a = b) : (wrem k e a b).1.den ρ = (wrem k e a b).2 := by
  show (B.eq (.bin .rem k e (.n (.ofNat a))) (.n (.ofNat b))).den ρ = true
  rw [rem_den h, decide_eq_true hb]

theorem add_fact {ρ : Nat → Int} {pc : Pc} {d : B × Bool} (hp : PcR ρ pc) (h : d.1.den ρ = d.2) : PcR ρ ⟨d :: pc.cs, pc.rng⟩ :=
  ⟨fun c hc => by
    rcases List.mem_cons.1 hc with rfl | hc
    · exact h
    · exact hp.cs c hc, hp.rng⟩

theorem dv_cover {J : (Nat → Int) → Prop} : ∀ ρ, J ρ → PcR ρ ⟨[], paR dvPa⟩ → ∃ q ∈ qsA, PcR ρ q := by
  intro ρ _ hp
  have g0 := hp.rng 0 0 255 (by rfl)
  obtain ⟨x, hx⟩ := Int.eq_ofNat_of_zero_le g0.1
  have hx2 : x < 256 := by omega
  have q0 : ∀ d, (wquo (.x 0) d).den ρ = ((x / d : Nat) : Int) := fun d => by
    show wrapZ .u64 ((ρ 0).tdiv (Int.ofNat d)) = _
    rw [hx]; exact wquo_den hx2 d
  have h0 : (E.x 0).den ρ = (x : Int) := hx
  refine ⟨qA (x / 4 % 2) (x / 8 % 2) (x % selB (Nat.beq (x / 4 % 2) 0) 4 7), List.mem_map.2 ⟨(x / 4 % 2, x / 8 % 2, x % selB (Nat.beq (x / 4 % 2) 0) 4 7), ?_, rfl⟩, ?_⟩
  · refine List.mem_flatMap.2 ⟨x / 4 % 2, List.mem_range.2 (by omega), List.mem_flatMap.2 ⟨x / 8 % 2, List.mem_range.2 (by omega), List.mem_map.2 ⟨_, List.mem_range.2 ?_, rfl⟩⟩⟩
    rcases (show x / 4 % 2 = 0 ∨ x / 4 % 2 = 1 by omega) with e | e <;> rw [e]
    · exact Nat.mod_lt _ (by decide : 0 < 4)
    · exact Nat.mod_lt _ (by decide : 0 < 7)
  · have e3 : (wrem (selB (Nat.beq (x / 4 % 2) 0) .u64 .u8) (.x 0) (selB (Nat.beq (x / 4 % 2) 0) 4 7) (x % selB (Nat.beq (x / 4 % 2) 0) 4 7)).1.den ρ = true := wrem_ok h0 _ _ _ rfl
    exact add_fact (pc := ⟨[_, _], _⟩) (add_fact (pc := ⟨[_], _⟩) (add_fact (pc := ⟨[], _⟩) hp e3) (wrem_ok (q0 8) _ 2 _ rfl)) (wrem_ok (q0 4) _ 2 _ rfl)

theorem reqs_cover {ρ : Nat → Int} {pc : Pc} (hp : PcR ρ pc) (r2 : pc.rng[2]? = some (0, 255)) (r3 : pc.rng[3]? = some (0, 255)) (r5 : pc.rng[5]? = some (0, 255)) : ∃ q ∈ qsB pc, PcR ρ q := by
  have g2 := hp.rng 2 0 255 r2
  have g3 := hp.rng 3 0 255 r3
  have g5 := hp.rng 5 0 255 r5
  obtain ⟨x, hx⟩ := Int.eq_ofNat_of_zero_le g2.1
  obtain ⟨y, hy⟩ := Int.eq_ofNat_of_zero_le g3.1
  obtain ⟨z, hz⟩ := Int.eq_ofNat_of_zero_le g5.1
  have hx2 : x < 256 := by omega
  have q2 : ∀ d, (wquo (.x 2) d).den ρ = ((x / d : Nat) : Int) := fun d => by
    show wrapZ .u64 ((ρ 2).tdiv (Int.ofNat d)) = _
    rw [hx]; exact wquo_den hx2 d
  have h2 : (E.x 2).den ρ = (x : Int) := hx
  have h3 : (E.x 3).den ρ = (y : Int) := hy
  have h5 : (E.x 5).den ρ = (z : Int) := hz
  have hB : ∀ t l, x % 4 = t → x / 4 % 8 = l → PcR ρ (partB t l pc) := fun t l e1 e2 => add_fact (pc := ⟨_ :: pc.cs, pc.rng⟩) (add_fact hp (wrem_ok (q2 4) _ 8 l e2)) (wrem_ok h2 _ 4 t e1)
  have hK : ∀ {pc c}, PcR ρ pc → y % 14 = c → PcR ρ (partK c pc) := fun h e => add_fact h (wrem_ok h3 _ 14 _ e)
  have hI : ∀ {pc}, PcR ρ pc → PcR ρ (partI (z % 9) pc) := fun h => add_fact h (wrem_ok h5 _ 9 _ rfl)
  have hno : ∀ {pc : Pc} {e : E} {n : Nat} {k : IntKind} {a b : Nat}, e.den ρ = (n : Int) → PcR ρ pc → n % a ≠ b → PcR ρ ⟨(.eq (.bin .rem k e (.n (.ofNat a))) (.n (.ofNat b)), false) :: pc.cs, pc.rng⟩ := fun he h hn => add_fact h (by rw [rem_den he, decide_eq_false hn])
  have hz9 : z % 9 ∈ List.range 9 := List.mem_range.2 (by omega)
  have hl8 : x / 4 % 8 ∈ List.range 8 := List.mem_range.2 (by omega)
  unfold qsB
  rcases (show x % 4 = 0 ∨ x % 4 = 1 ∨ x % 4 = 2 ∨ x % 4 = 3 by omega) with e | e | e | e
  · exact ⟨partB 0 (x / 4 % 8) pc, List.mem_append_left _ (List.mem_append_left _ (List.mem_append_left _ (List.mem_append_left _ (List.mem_map.2 ⟨_, hl8, rfl⟩)))), hB _ _ e rfl⟩
  · -- the length: 0, 4, another one
    obtain ⟨m, hm, hpm⟩ : ∃ m, (m = 0 ∨ m = 1 ∨ m = 2) ∧ PcR ρ (partM 1 m pc) := by
      by_cases l0 : x / 4 % 8 = 0
      · exact ⟨0, .inl rfl, hB _ _ e l0⟩
      · by_cases l4 : x / 4 % 8 = 4
        · exact ⟨1, .inr (.inl rfl), hB _ _ e l4⟩
        · exact ⟨2, .inr (.inr rfl), add_fact (pc := ⟨_ :: _ :: pc.cs, pc.rng⟩) (hno (pc := ⟨_ :: pc.cs, pc.rng⟩) (q2 4) (hno (q2 4) hp l0) l4) (wrem_ok h2 _ 4 1 e)⟩
    have key : ∃ q ∈ qsM m pc, PcR ρ q := by
      by_cases c0 : y % 14 = 0
      · exact ⟨partI (z % 9) (partK 0 (partM 1 m pc)), List.mem_cons_of_mem _ (List.mem_map.2 ⟨_, hz9, rfl⟩), hI (hK hpm c0)⟩
      · exact ⟨partN (partM 1 m pc), .head _, hno h3 hpm c0⟩
    obtain ⟨q, hq, hpq⟩ := key
    refine ⟨q, List.mem_append_left _ (List.mem_append_left _ (List.mem_append_left _ (List.mem_append_right _ ?_))), hpq⟩
    rcases hm with rfl | rfl | rfl
    · exact List.mem_append_left _ (List.mem_append_left _ hq)
    · exact List.mem_append_left _ (List.mem_append_right _ hq)
    · exact List.mem_append_right _ hq
  · exact ⟨partB 2 (x / 4 % 8) pc, List.mem_append_left _ (List.mem_append_left _ (List.mem_append_right _ (List.mem_map.2 ⟨_, hl8, rfl⟩))), hB _ _ e rfl⟩
  · by_cases l0 : x / 4 % 8 = 0
    · have h30 := hB _ _ e l0
      have key : ∃ q ∈ qsK pc, PcR ρ q := by
        by_cases c1 : y % 14 = 1
        · exact ⟨partI (z % 9) (partK 1 (partB 3 0 pc)), List.mem_append_left _ (List.mem_cons_of_mem _ (List.mem_map.2 ⟨_, hz9, rfl⟩)), hI (hK h30 c1)⟩
        · by_cases c3 : y % 14 = 3
          · exact ⟨partI (z % 9) (partK 3 (partB 3 0 pc)), List.mem_append_right _ (List.mem_map.2 ⟨_, hz9, rfl⟩), hI (hK h30 c3)⟩
          · exact ⟨partO (partB 3 0 pc), List.mem_append_left _ (.head _), hno (pc := ⟨_ :: _, _⟩) h3 (hno h3 h30 c3) c1⟩
      obtain ⟨q, hq, hpq⟩ := key
      exact ⟨q, List.mem_append_right _ hq, hpq⟩
    · refine ⟨partB 3 (x / 4 % 8 - 1 + 1) pc, List.mem_append_left _ (List.mem_append_right _ (List.mem_map.2 ⟨x / 4 % 8 - 1, List.mem_range.2 (by omega), rfl⟩)), hB _ _ e (by omega)⟩

theorem setRng_get : ∀ {rng : List (Int × Int)} {i j : Nat} {f : Int × Int → Int × Int}, (setRng rng i f)[j]? = (rng[j]?).map fun r => if i = j then f r else r
  | [], i, j, f => by simp [setRng]
  | x :: l, 0, 0, f => by simp [setRng]
  | x :: l, 0, j + 1, f => by simp [setRng]
  | x :: l, i + 1, 0, f => by simp [setRng]
  | x :: l, i + 1, j + 1, f => by
    have := setRng_get (rng := l) (i := i) (j := j) (f := f)
    simpa [setRng] using this

theorem setRng_R {ρ : Nat → Int} {rng : List (Int × Int)} {k : Nat} {a b : Int} (hr : ∀ i lo hi, rng[i]? = some (lo, hi) → lo ≤ ρ i ∧ ρ i ≤ hi) (h : a ≤ ρ k ∧ ρ k ≤ b) :
    ∀ i lo hi, (setRng rng k fun _ => (a, b))[i]? = some (lo, hi) → lo ≤ ρ i ∧ ρ i ≤ hi := by
  intro i lo hi hi'
  rw [setRng_get] at hi'
  cases hg : rng[i]? with
  | none => rw [hg] at hi'; simp at hi'
  | some r =>
    rw [hg] at hi'
    by_cases e : k = i
    · subst e; simp at hi'; omega
    · simp [e] at hi'
      exact hr i lo hi (by rw [hg, hi'])

theorem ends_cover {J : (Nat → Int) → Prop} {s : Nat} (hs : s < 2) : ∀ ρ, J ρ → PcR ρ (pnC s).pc → ∃ q ∈ qsC s, PcR ρ q := by
  intro ρ _ hp
  have g6 := hp.rng 6 1 7 (by rfl)
  have g7 := hp.rng 7 0 1 (by rfl)
  obtain ⟨k, hk⟩ := Int.eq_ofNat_of_zero_le (show 0 ≤ ρ 6 by omega)
  have hf := hp.cs (.eq (.x 7) (.n 1), Nat.beq s 1) (.head _)
  have h7 : ρ 7 = (s : Int) := by
    have hf : (ρ 7 == 1) = Nat.beq s 1 := hf
    rcases (show s = 0 ∨ s = 1 by omega) with rfl | rfl
    · have hf : (ρ 7 == 1) = false := hf
      have : ρ 7 ≠ 1 := by simpa using hf
      omega
    · have hf : (ρ 7 == 1) = true := hf
      have : ρ 7 = 1 := by simpa using hf
      omega
  refine ⟨caseC s (k - 1 + 1), List.mem_map.2 ⟨k - 1, List.mem_range.2 (by omega), rfl⟩, hp.cs, ?_⟩
  have hk1 : k - 1 + 1 = k := by omega
  rw [hk1]
  exact setRng_R (setRng_R hp.rng ⟨by rw [hk]; exact Int.le_refl _, by rw [hk]; exact Int.le_refl _⟩) ⟨by rw [h7]; exact Int.le_refl _, by rw [h7]; exact Int.le_refl _⟩

end Go.Proofs.YtafkokkcnnfnlaaGreatDoor
