/-
  What is proved here: a stream's transactions OUT, and what holds of the host and the device behind each of them; packets of bytes.
  Conditions: none.
-/
import Derived.Test.YtiajboiobjfcoaaGreatDoorOTake
namespace Go.Proofs.YtiajboiobjfcoaaGreatDoor
open Go.Proofs Go.RowKit
def cutF (mx : Nat) (t : Bool) : Nat → List Int → List (List Int)
 | 0, b => if t then [b, []] else [b]
 | k + 1, b => if mx < b.length then b.take mx :: cutF mx t k (b.drop mx) else if t then [b, []] else [b]
def cutL (mx : Nat) (z : Bool) (b : List Int) : List (List Int) := cutF mx (z && decide (0 < b.length ∧ b.length % mx = 0)) b.length b
theorem cutF_flat (mx : Nat) (t : Bool) (k : Nat) (b : List Int) : (cutF mx t k b).flatten = b := by
 induction k generalizing b with
 | zero => unfold cutF; split <;> simp
 | succ k ih =>
  unfold cutF
  split
  ·simp [ih]
  ·split <;> simp
theorem cutF_le (mx : Nat) (hm : 1 ≤ mx) (t : Bool) (k : Nat) (b : List Int) (hb : b.length ≤ k) : ∀ p ∈ cutF mx t k b, p.length ≤ mx := by
 induction k generalizing b with
 | zero =>
  have : b = [] := List.eq_nil_of_length_eq_zero (by omega)
  subst this
  unfold cutF; split <;> simp
 | succ k ih =>
  unfold cutF
  split
  ·intro p hp
   rcases List.mem_cons.1 hp with rfl | hp
   ·simp; omega
   ·exact ih (b.drop mx) (by simp; omega) p hp
  ·intro p hp
   split at hp
   ·simp at hp; rcases hp with rfl | rfl
    ·omega
    ·simp
   ·simp at hp; subst hp; omega
theorem cutF_len (mx : Nat) (hm : 1 ≤ mx) (t : Bool) (k : Nat) (b : List Int) (hb : b.length ≤ k) (h0 : 0 < b.length) : (cutF mx t k b).length = (b.length + mx - 1) / mx + (if t then 1 else 0) := by
 induction k generalizing b with
 | zero => omega
 | succ k ih =>
  unfold cutF
  split
  ·rename_i h
   rw [List.length_cons, ih (b.drop mx) (by simp; omega) (by simp; omega)]
   have : b.length + mx - 1 = ((b.drop mx).length + mx - 1) + mx := by simp; omega
   rw [this, Nat.add_div_right _ (by omega)]
   omega
  ·rename_i h
   have : (b.length + mx - 1) / mx = 1 := Nat.div_eq_of_lt_le (by omega) (by omega)
   rw [this]
   split <;> simp
theorem cutF_pos (mx : Nat) (t : Bool) (k : Nat) (b : List Int) : 1 ≤ (cutF mx t k b).length := by
 cases k with
 | zero => unfold cutF; split <;> simp
 | succ k =>
  unfold cutF
  split
  ·simp
  ·split <;> simp
theorem cutF_step (mx : Nat) (t : Bool) (k : Nat) (b : List Int) (hk : b.length ≤ k) (h : mx < b.length) : cutF mx t k b = b.take mx :: cutF mx t (k - 1) (b.drop mx) := by
 cases k with
 | zero => omega
 | succ k => rw [cutF, if_pos h]; rfl
theorem cutF_last (mx : Nat) (t : Bool) (k : Nat) (b : List Int) (h : ¬ mx < b.length) : cutF mx t k b = if t then [b, []] else [b] := by
 cases k with
 | zero => rfl
 | succ k => rw [cutF, if_neg h]
theorem cutF_fuel (mx : Nat) (hm : 1 ≤ mx) (t : Bool) (k k' : Nat) (b : List Int) (hk : b.length ≤ k) (hk' : b.length ≤ k') : cutF mx t k b = cutF mx t k' b := by
 induction k generalizing b k' with
 | zero =>
  have : b = [] := List.eq_nil_of_length_eq_zero (by omega)
  subst this
  rw [cutF_last _ _ _ _ (by simp), cutF_last _ _ _ _ (by simp)]
 | succ k ih =>
  by_cases h : mx < b.length
  ·rw [cutF_step _ _ _ _ hk h, cutF_step _ _ _ _ hk' h]
   congr 1
   exact ih _ _ (by simp; omega) (by simp; omega)
  ·rw [cutF_last _ _ _ _ h, cutF_last _ _ _ _ h]
theorem cutL_count (mx : Nat) (z : Bool) (b : List Int) (hm : 1 ≤ mx) : (cutL mx z b).length ≤ b.length / mx + 2 := by
 unfold cutL
 rcases Nat.eq_zero_or_pos b.length with h0 | h0
 ·rw [cutF_last _ _ _ _ (by omega)]
  split <;> simp
 ·rw [cutF_len mx hm _ _ _ (Nat.le_refl _) h0]
  have : (b.length + mx - 1) / mx ≤ b.length / mx + 1 := by
   rw [← Nat.add_div_right _ (by omega)]
   exact Nat.div_le_div_right (by omega)
  split <;> omega
theorem cutL_parts (z : Bool) (b : List Int) (h0 : 0 < b.length) : (cutL 8 z b).length = if z = true ∧ b.length % 8 = 0 then b.length / 8 + 1 else (b.length + 7) / 8 := by
 unfold cutL
 rw [cutF_len 8 (by omega) _ _ _ (Nat.le_refl _) h0]
 simp only [Bool.and_eq_true, decide_eq_true_eq]
 split
 ·rename_i h
  rw [if_pos ⟨h.1, h.2.2⟩]
  omega
 ·rename_i h
  rw [if_neg (fun h' => h ⟨h'.1, h0, h'.2⟩)]
  rfl
def strOut {τ : Type} (nx : τ → Int × τ) (K : GrK) (s : τ × GrS) (tg : Bool) (xs : List Int) : Int × (τ × GrS) :=
 if (nx s.1).1 = 0 then
  if (nx (nx s.1).2).1 = 0 then
   (if (nx (nx (nx s.1).2).2).1 = 0 then hsV (GrS.takeB K { s.2 with wt := false, tk := false } (if tg then 11 else 3) xs).1 true else 4,
    ((nx (nx (nx s.1).2).2).2, (GrS.takeB K { s.2 with wt := false, tk := false } (if tg then 11 else 3) xs).2))
  else (4, ((nx (nx s.1).2).2, { s.2 with wt := false, tk := true }))
 else (4, ((nx (nx s.1).2).2, s.2))
structure Hst where
 tg : Bool
 k : Nat
 er : Nat
 over : Bool
 e : Int
def Hst.ans (n : Nat) (h : Hst) (r : Int) : Hst :=
 if r = 4 then { h with er := h.er + 1, over := decide (h.er + 1 = 3), e := if h.er + 1 = 3 then 11 else 0 }
 else if r = 3 then { h with er := 0, over := true, e := 12 }
 else if r = 1 then { h with er := 0, k := h.k + 1, tg := !h.tg, over := decide (h.k + 1 = n) }
 else { h with er := 0 }
structure Syn (bs : List (List Int)) (T0 : List Int) (m0 : Nat) (h : Hst) (g : GrS) : Prop where
 two : (g.tg = h.tg ∧ g.taken = T0 ++ (bs.take h.k).flatten ∧ g.many = m0 + h.k) ∨
  (g.tg = (!h.tg) ∧ h.k < bs.length ∧ g.taken = T0 ++ (bs.take (h.k + 1)).flatten ∧ g.many = m0 + h.k + 1 ∧ 1 ≤ h.er)
 er : h.er ≤ 3
 run : h.over = false → h.k < bs.length ∧ h.e = 0 ∧ h.er < 3
 fin : h.over = true → (h.e = 0 ∧ h.k = bs.length ∧ h.er = 0) ∨ ((h.e = 11 ∨ h.e = 12) ∧ h.k < bs.length)
theorem hsV_cases (p : Int) (h : p = 2 ∨ p = 14 ∨ p = 10) : hsV p true = if p = 2 then 1 else if p = 14 then 3 else 2 := by
 rcases h with rfl | rfl | rfl <;> simp [hsV]
theorem takeB_cases (K : GrK) (s : GrS) (pid : Int) (xs : List Int) : (decide (pid = 11) ≠ s.tg ∧ s.takeB K pid xs = (2, s)) ∨
  (decide (pid = 11) = s.tg ∧ (s.takeB K pid xs = (14, { s with at_ := s.at_ + 1 }) ∨ s.takeB K pid xs = (10, { s with at_ := s.at_ + 1 }) ∨ s.takeB K pid xs = (2, { s with at_ := s.at_ + 1, taken := s.taken ++ xs, many := s.many + 1, tg := !s.tg }))) := by
 unfold GrS.takeB
 by_cases h : decide (pid = 11) = s.tg
 ·rw [if_neg (by simp [h])]
  refine .inr ⟨h, ?_⟩
  by_cases h2 : (s.ask K).1 = 2
  ·rw [if_pos h2]; exact .inl rfl
  ·rw [if_neg h2]
   by_cases h1 : (s.ask K).1 = 1
   ·rw [if_pos h1]; exact .inr (.inl rfl)
   ·rw [if_neg h1]; exact .inr (.inr rfl)
 ·rw [if_pos (by simp [h])]
  exact .inl ⟨h, rfl⟩
theorem syn_step {τ : Type} (nx : τ → Int × τ) (K : GrK) (bs : List (List Int)) (T0 : List Int) (m0 : Nat) (h : Hst) (s : τ × GrS) (hs : Syn bs T0 m0 h s.2) (ho : h.over = false) :
  Syn bs T0 m0 (h.ans bs.length (strOut nx K s h.tg (bs[h.k]?.getD [])).1) (strOut nx K s h.tg (bs[h.k]?.getD [])).2.2 := by
 obtain ⟨tg, k, er, over, e⟩ := h
 obtain ⟨t, tg', at_, nx_, wt, tk, taken, many⟩ := s
 obtain ⟨h2, her, hrun, _⟩ := hs
 dsimp only at *
 subst ho
 obtain ⟨hk, he, her3⟩ := hrun rfl
 obtain ⟨b, hb⟩ : ∃ b, bs[k]? = some b := ⟨_, List.getElem?_eq_getElem hk⟩
 have htk : (bs.take (k + 1)).flatten = (bs.take k).flatten ++ b := by rw [List.take_add_one, hb]; simp
 subst he
 have lost : ∀ g : GrS, g.tg = tg' → g.taken = taken → g.many = many → Syn bs T0 m0 (Hst.ans bs.length ⟨tg, k, er, false, 0⟩ 4) g := by
  intro g h1 h3 h4
  unfold Hst.ans
  simp only [if_true]
  refine ⟨?_, by dsimp only; omega, fun h => ?_, fun h => ?_⟩
  ·rw [h1, h3, h4]; dsimp only
   exact h2.imp id fun ⟨a, b, c, d, e⟩ => ⟨a, b, c, d, by omega⟩
  ·dsimp only at h ⊢; have h := of_decide_eq_false h; exact ⟨hk, by rw [if_neg h], by omega⟩
  ·dsimp only at h ⊢; have h := of_decide_eq_true h; right; exact ⟨by rw [if_pos h]; simp, hk⟩
 unfold strOut
 dsimp only
 split
 ·split
  ·rw [hb]
   dsimp only [Option.getD_some]
   have hpid : decide ((if tg = true then (11 : Int) else 3) = 11) = tg := by cases tg <;> simp
   have hc := takeB_cases K ⟨tg', at_, nx_, false, false, taken, many⟩ (if tg = true then (11 : Int) else 3) b
   rw [hpid] at hc
   dsimp only at hc
   rcases h2 with ⟨e1, e2, e3⟩ | ⟨e1, e2, e3, e4, e5⟩
   ·subst e1
    rcases hc with ⟨hc, _⟩ | ⟨_, hc | hc | hc⟩
    ·exact absurd rfl hc
    ·rw [hc]
     dsimp only
     split
     ·rw [hsV_cases _ (.inr (.inl rfl))]
      unfold Hst.ans
      simp
      exact ⟨.inl ⟨rfl, e2, e3⟩, by simp, by simp, fun _ => .inr ⟨.inr rfl, hk⟩⟩
     ·exact lost _ rfl rfl rfl
    ·rw [hc]
     dsimp only
     split
     ·rw [hsV_cases _ (.inr (.inr rfl))]
      unfold Hst.ans
      simp
      exact ⟨.inl ⟨rfl, e2, e3⟩, by simp, fun _ => ⟨hk, rfl, by simp⟩, by simp⟩
     ·exact lost _ rfl rfl rfl
    ·rw [hc]
     dsimp only
     split
     ·rw [hsV_cases _ (.inl rfl)]
      unfold Hst.ans
      simp
      refine ⟨.inl ⟨rfl, ?_, ?_⟩, by simp, fun h => ?_, fun h => .inl ⟨rfl, ?_, rfl⟩⟩
      ·dsimp only; rw [htk, e2]; simp
      ·dsimp only; omega
      ·dsimp only at h ⊢; have h := of_decide_eq_false h; exact ⟨by omega, rfl, by omega⟩
      ·dsimp only at h ⊢; simpa using h
     ·unfold Hst.ans
      simp only [if_true]
      refine ⟨.inr ⟨rfl, hk, ?_, ?_, by dsimp only; omega⟩, by dsimp only; omega, fun h => ?_, fun h => ?_⟩
      ·dsimp only; rw [htk, e2]; simp
      ·dsimp only; omega
      ·dsimp only at h ⊢; have h := of_decide_eq_false h; exact ⟨hk, by rw [if_neg h], by omega⟩
      ·dsimp only at h ⊢; have h := of_decide_eq_true h; right; exact ⟨by rw [if_pos h]; simp, hk⟩
   ·have hne : tg ≠ tg' := by rw [e1]; cases tg <;> simp
    rcases hc with ⟨_, hc⟩ | ⟨hc, _⟩
    ·rw [hc]
     dsimp only
     split
     ·rw [hsV_cases _ (.inl rfl)]
      unfold Hst.ans
      simp
      refine ⟨.inl ⟨e1, e3, by dsimp only; omega⟩, by simp, fun h => ?_, fun h => .inl ⟨rfl, ?_, rfl⟩⟩
      ·dsimp only at h ⊢; have h := of_decide_eq_false h; exact ⟨by omega, rfl, by omega⟩
      ·dsimp only at h ⊢; simpa using h
     ·exact lost _ rfl rfl rfl
    ·exact absurd hc hne
  ·exact lost _ rfl rfl rfl
 ·exact lost _ rfl rfl rfl
end Go.Proofs.YtiajboiobjfcoaaGreatDoor
