/-
  What is proved here: a stream's transactions IN, and what holds of the host and the device behind each of them.
  Conditions: none.
  What is proved here: what the law asks of a job IN that is over, or stopped, follows from what holds of the host and the device.
  Conditions: none.
-/
import Derived.Test.YtiajboiobjfcoaaGreatDoorNHear
import Derived.Test.YtiajboiobjfcoaaGreatDoorIIn
namespace Go.Proofs.YtiajboiobjfcoaaGreatDoor
open Go.Proofs Go.RowKit
def GrS.ack (s : GrS) : GrS := if s.wt = true then { s with wt := false, tk := false, nx := s.nx + 1, tg := !s.tg } else { s with wt := false, tk := false }
def strIn {τ : Type} (nx : τ → Int × τ) (K : GrK) (s : τ × GrS) (tg : Bool) : (Int × List Int) × (τ × GrS) :=
 if (nx s.1).1 = 0 then
  if (nx (nx s.1).2).1 = 0 then
   if ((GrS.giveB K { s.2 with wt := false, tk := false }).1.getD pk0).pid ≠ 3 ∧ ((GrS.giveB K { s.2 with wt := false, tk := false }).1.getD pk0).pid ≠ 11 then
    ((hsV ((GrS.giveB K { s.2 with wt := false, tk := false }).1.getD pk0).pid false, []), ((nx (nx s.1).2).2, (GrS.giveB K { s.2 with wt := false, tk := false }).2))
   else (if decide (((GrS.giveB K { s.2 with wt := false, tk := false }).1.getD pk0).pid = 11) = tg then (1, ((GrS.giveB K { s.2 with wt := false, tk := false }).1.getD pk0).data) else (6, []),
    ((nx (nx (nx s.1).2).2).2, if (nx (nx (nx s.1).2).2).1 = 0 then (GrS.giveB K { s.2 with wt := false, tk := false }).2.ack else (GrS.giveB K { s.2 with wt := false, tk := false }).2))
  else ((4, []), ((nx (nx s.1).2).2, (GrS.giveB K { s.2 with wt := false, tk := false }).2))
 else ((4, []), ((nx s.1).2, s.2))
theorem giveB_cases (K : GrK) (s : GrS) : s.giveB K = (some ⟨14, 0, 0, []⟩, { s with at_ := s.at_ + 1 }) ∨ s.giveB K = (some ⟨10, 0, 0, []⟩, { s with at_ := s.at_ + 1 }) ∨
  (s.nx < K.on ∧ s.giveB K = (some ⟨if s.tg then 11 else 3, 0, 0, K.offs[s.nx]?.getD []⟩, { s with at_ := s.at_ + 1, wt := true })) := by
 unfold GrS.giveB
 by_cases h2 : (s.ask K).1 = 2
 ·rw [if_pos h2]; exact .inl rfl
 ·rw [if_neg h2]
  by_cases h1 : (s.ask K).1 = 1 ∨ K.on ≤ s.nx
  ·rw [if_pos h1]; exact .inr (.inl rfl)
  ·rw [if_neg h1]; exact .inr (.inr ⟨by omega, rfl⟩)
structure HIn where
 tg : Bool
 got : List Int
 er : Nat
 over : Bool
 e : Int
def HIn.ans (n : Nat) (h : HIn) (r : Int × List Int) : HIn :=
 if r.1 = 4 then { h with er := h.er + 1, over := decide (h.er + 1 = 3), e := if h.er + 1 = 3 then 11 else 0 }
 else if r.1 = 3 then { h with er := 0, over := true, e := 12 }
 else if r.1 = 1 then
  if n < h.got.length + r.2.length then { h with er := 0, over := true, e := 13 }
  else { h with er := 0, got := h.got ++ r.2, tg := !h.tg, over := decide (r.2.length < 8) || decide (h.got.length + r.2.length = n) }
 else { h with er := 0 }
structure SynI (K : GrK) (T0 : List Int) (n : Nat) (h : HIn) (g : GrS) : Prop where
 on : g.nx ≤ K.on
 two : (g.tg = h.tg ∧ T0 ++ h.got = (K.offs.take g.nx).flatten) ∨ (g.tg = (!h.tg) ∧ g.nx < K.on ∧ T0 ++ h.got = (K.offs.take (g.nx + 1)).flatten) ∨
  (h.over = true ∧ h.e = 13 ∧ 1 ≤ g.nx ∧ T0 ++ h.got = (K.offs.take (g.nx - 1)).flatten)
 er : h.er ≤ 3
 len : h.got.length ≤ n
 run : h.over = false → h.e = 0 ∧ h.er < 3 ∧ h.got.length < n
 fin : h.over = true → (h.e = 0 ∧ (h.got.length = n ∨ ∃ k b, K.offs[k]? = some b ∧ b.length < 8 ∧ T0 ++ h.got = (K.offs.take (k + 1)).flatten)) ∨ h.e = 11 ∨ h.e = 12 ∨ h.e = 13
theorem synI_step {τ : Type} (nx : τ → Int × τ) (K : GrK) (hK : K.offs.length = K.on) (T0 : List Int) (n : Nat) (h : HIn) (s : τ × GrS) (hs : SynI K T0 n h s.2) (ho : h.over = false) :
  SynI K T0 n (h.ans n (strIn nx K s h.tg).1) (strIn nx K s h.tg).2.2 := by
 obtain ⟨tg, got, er, over, e⟩ := h
 obtain ⟨t, tg', at_, nx_, wt, tk, taken, many⟩ := s
 obtain ⟨hon, h2, her, hlen, hrun, _⟩ := hs
 dsimp only at *
 subst ho
 obtain ⟨he, her3, hgn⟩ := hrun rfl
 subst he
 have h2' : (tg' = tg ∧ T0 ++ got = (K.offs.take nx_).flatten) ∨ (tg' = (!tg) ∧ nx_ < K.on ∧ T0 ++ got = (K.offs.take (nx_ + 1)).flatten) := by
  rcases h2 with h2 | h2 | ⟨h, _⟩
  ·exact .inl h2
  ·exact .inr h2
  ·cases h
 clear h2
 have lost : ∀ g : GrS, g.tg = tg' → g.nx = nx_ → SynI K T0 n (HIn.ans n ⟨tg, got, er, false, 0⟩ (4, [])) g := by
  intro g h1 h3
  unfold HIn.ans
  simp only [if_true]
  refine ⟨by omega, ?_, by dsimp only; omega, hlen, fun h => ?_, fun h => ?_⟩
  ·rw [h1, h3]; dsimp only
   exact h2'.imp id .inl
  ·dsimp only at h ⊢; have h := of_decide_eq_false h; exact ⟨by rw [if_neg h], by omega, hgn⟩
  ·dsimp only at h ⊢; have h := of_decide_eq_true h; rw [if_pos h]; simp
 have keep : ∀ (r : Int) (g : GrS), r ≠ 4 → r ≠ 3 → r ≠ 1 → g.tg = tg' → g.nx = nx_ → SynI K T0 n (HIn.ans n ⟨tg, got, er, false, 0⟩ (r, [])) g := by
  intro r g h4 h3' h1' h1 h3
  unfold HIn.ans
  rw [if_neg h4, if_neg h3', if_neg h1']
  refine ⟨by omega, ?_, by simp, hlen, fun _ => ⟨rfl, by simp, hgn⟩, fun h => by cases h⟩
  rw [h1, h3]; exact h2'.imp id .inl
 unfold strIn
 dsimp only
 split
 ·split
  ·rcases giveB_cases K ⟨tg', at_, nx_, false, false, taken, many⟩ with hc | hc | ⟨hlt, hc⟩
   ·rw [hc]
    dsimp only [Option.getD_some]
    rw [if_pos (by decide)]
    have : hsV 14 false = 3 := by simp [hsV]
    rw [this]
    unfold HIn.ans
    simp
    exact ⟨hon, h2'.imp id .inl, by simp, hlen, by simp, by simp⟩
   ·rw [hc]
    dsimp only [Option.getD_some]
    rw [if_pos (by decide)]
    have : hsV 10 false = 2 := by simp [hsV]
    rw [this]
    exact keep 2 _ (by decide) (by decide) (by decide) rfl rfl
   ·rw [hc]
    dsimp only at hlt
    obtain ⟨b, hb⟩ : ∃ b, K.offs[nx_]? = some b := ⟨_, List.getElem?_eq_getElem (by omega)⟩
    have htk : (K.offs.take (nx_ + 1)).flatten = (K.offs.take nx_).flatten ++ b := by rw [List.take_add_one, hb]; simp
    dsimp only [Option.getD_some]
    rw [hb]
    dsimp only [Option.getD_some]
    have hpid : decide ((if tg' = true then (11 : Int) else 3) = 11) = tg' := by cases tg' <;> simp
    rw [if_neg (by cases tg' <;> simp)]
    simp only [hpid]
    rcases h2' with ⟨e1, e2⟩ | ⟨e1, e2, e3⟩
    ·subst e1
     rw [if_pos rfl]
     unfold HIn.ans
     simp only []
     rw [if_neg (by decide), if_neg (by decide), if_pos trivial]
     by_cases hbab : n < got.length + b.length
     ·rw [if_pos hbab]
      split
      ·unfold GrS.ack
       simp only [if_true]
       refine ⟨by dsimp only; omega, .inr (.inr ⟨rfl, rfl, by dsimp only; omega, ?_⟩), by simp, hlen, by simp, by simp⟩
       simpa using e2
      ·exact ⟨hon, .inl ⟨rfl, e2⟩, by simp, hlen, by simp, by simp⟩
     ·rw [if_neg hbab]
      have hfin : ∀ g : GrS, g.nx ≤ K.on → (g.tg = (!tg') ∧ g.nx = nx_ + 1 ∨ g.tg = tg' ∧ g.nx = nx_) →
        SynI K T0 n ⟨!tg', got ++ b, 0, decide (b.length < 8) || decide (got.length + b.length = n), 0⟩ g := by
       intro g hg hh
       refine ⟨hg, ?_, by simp, by simp; omega, fun h => ?_, fun h => .inl ⟨rfl, ?_⟩⟩
       ·rcases hh with ⟨a, c⟩ | ⟨a, c⟩
        ·left; rw [a, c, htk, ← e2]; simp
        ·right; left; rw [a, c, htk, ← e2]; exact ⟨by simp, by omega, by simp⟩
       ·simp only [Bool.or_eq_false_iff, decide_eq_false_iff_not] at h
        exact ⟨rfl, by simp, by simp; omega⟩
       ·simp only [Bool.or_eq_true, decide_eq_true_eq] at h
        rcases h with h | h
        ·exact .inr ⟨nx_, b, hb, h, by rw [htk, ← e2]; simp⟩
        ·exact .inl (by simp; omega)
      split
      ·exact hfin _ (by unfold GrS.ack; simp; omega) (.inl (by unfold GrS.ack; simp))
      ·exact hfin _ hon (.inr ⟨rfl, rfl⟩)
    ·have hne : tg' ≠ tg := by rw [e1]; cases tg <;> simp
     rw [if_neg hne]
     unfold HIn.ans
     rw [if_neg (by decide), if_neg (by decide), if_neg (by decide)]
     split
     ·refine ⟨by unfold GrS.ack; simp; omega, .inl ⟨by unfold GrS.ack; simp [e1], by unfold GrS.ack; simpa using e3⟩, by simp, hlen, fun _ => ⟨rfl, by simp, hgn⟩, fun h => by cases h⟩
     ·exact ⟨hon, .inr (.inl ⟨e1, e2, e3⟩), by simp, hlen, fun _ => ⟨rfl, by simp, hgn⟩, fun h => by cases h⟩
  ·rcases giveB_cases K ⟨tg', at_, nx_, false, false, taken, many⟩ with hc | hc | ⟨hlt, hc⟩ <;> rw [hc] <;> exact lost _ rfl rfl
 ·exact lost _ rfl rfl
end Go.Proofs.YtiajboiobjfcoaaGreatDoor

namespace Go.Proofs.YtiajboiobjfcoaaGreatDoor
open Go.Proofs Go.RowKit
theorem pre_len (bs : List (List Int)) {i j : Nat} (h : i ≤ j) : ((bs.take i).flatten).length ≤ ((bs.take j).flatten).length := by
 have e : bs.take i = (bs.take j).take i := by rw [List.take_take, Nat.min_eq_left h]
 have h2 := congrArg List.flatten (List.take_append_drop i (bs.take j))
 rw [List.flatten_append] at h2
 rw [e, ← h2, List.length_append]
 simp
theorem pre_take (bs : List (List Int)) (k : Nat) : (bs.take k).flatten = bs.flatten.take ((bs.take k).flatten).length := by
 have h := congrArg List.flatten (List.take_append_drop k bs)
 rw [List.flatten_append] at h
 rw [← h, List.take_left']
 rfl
def stNE (h : HIn) : Int := if h.over = true then h.e else 17
def stNHa (h : HIn) : Bool := if h.over = true then decide (h.e ≠ 0) else false
structure FinN (K : GrK) (T0 : List Int) (n : Nat) (h : HIn) (g : GrS) : Prop where
 le : h.got.length ≤ n
 nx : g.nx ≤ K.on
 pre : T0 ++ h.got = K.offs.flatten.take (T0 ++ h.got).length
 known : stNE h ≠ 13 → ((K.offs.take g.nx).flatten).length ≤ (T0 ++ h.got).length
 far : (T0 ++ h.got).length ≤ ((K.offs.take (min (g.nx + 1) K.on)).flatten).length
 short : stNE h = 0 → h.got.length < n → ∃ k b, K.offs[k]? = some b ∧ b.length < 8 ∧ (T0 ++ h.got).length = ((K.offs.take (k + 1)).flatten).length
 good : stNE h = 0 → stNHa h = false
 bad : stNE h ≠ 0 → stNE h ≠ 17 → stNHa h = true
 next : stNHa h = false → ∀ n', SynI K (T0 ++ h.got) n' ⟨h.tg, [], 0, decide (n' = 0), 0⟩ g
theorem in_fin {K : GrK} {T0 : List Int} {n : Nat} {h : HIn} {g : GrS} (hs : SynI K T0 n h g) : FinN K T0 n h g := by
  obtain ⟨tg, got, er, over, e⟩ := h
  obtain ⟨hon, h2, her, hlen, hrun, hfin⟩ := hs
  dsimp only at *
  have hpre : ∃ j, T0 ++ got = (K.offs.take j).flatten ∧ j ≤ min (g.nx + 1) K.on ∧ (g.nx ≤ j ∨ (over = true ∧ e = 13)) := by
    rcases h2 with ⟨_, h⟩ | ⟨_, hlt, h⟩ | ⟨ho, he, h1, h⟩
    · exact ⟨_, h, by omega, .inl (Nat.le_refl _)⟩
    · exact ⟨_, h, by omega, .inl (by omega)⟩
    · exact ⟨_, h, by omega, .inr ⟨ho, he⟩⟩
  obtain ⟨j, hj, hj1, hj2⟩ := hpre
  refine ⟨hlen, hon, ?_, fun hk => ?_, ?_, fun h0 hlt => ?_, fun h0 => ?_, fun h0 h17 => ?_, fun hha n' => ?_⟩
  · show T0 ++ got = K.offs.flatten.take (T0 ++ got).length
    rw [hj]
    exact pre_take K.offs j
  · show ((K.offs.take g.nx).flatten).length ≤ (T0 ++ got).length
    rw [hj]
    rcases hj2 with h | ⟨ho, he⟩
    · exact pre_len _ h
    · exact absurd (by unfold stNE; simp [ho, he]) hk
  · show (T0 ++ got).length ≤ _
    rw [hj]
    exact pre_len _ hj1
  · cases over with
    | false => simp [stNE] at h0
    | true =>
      have he : e = 0 := by simpa [stNE] using h0
      rcases hfin rfl with ⟨_, h | ⟨k, b, h1, h2', h3⟩⟩ | h | h | h
      · dsimp only at hlt; omega
      · exact ⟨k, b, h1, h2', by show (T0 ++ got).length = _; rw [h3]⟩
      · omega
      · omega
      · omega
  · cases over with
    | false => simp [stNE] at h0
    | true => have he : e = 0 := by simpa [stNE] using h0
              simp [stNHa, he]
  · cases over with
    | false => simp [stNE] at h17
    | true => have he : e ≠ 0 := by simpa [stNE] using h0
              simp [stNHa, he]
  · have hne : ¬ (over = true ∧ e = 13) := by
      rintro ⟨ho, he⟩
      simp [stNHa, ho, he] at hha
    refine ⟨hon, ?_, by simp, by simp, fun h => ⟨rfl, by simp, ?_⟩, fun h => .inl ⟨rfl, ?_⟩⟩
    · rcases h2 with ⟨a, b⟩ | ⟨a, b, c⟩ | ⟨a, b, _⟩
      · exact .inl ⟨a, by simpa using b⟩
      · exact .inr (.inl ⟨a, b, by simpa using c⟩)
      · exact absurd ⟨a, b⟩ hne
    · have := of_decide_eq_false h
      simp; omega
    · have := of_decide_eq_true h
      left; simp [this]
end Go.Proofs.YtiajboiobjfcoaaGreatDoor
