/-
  What is proved here: the cases of the rounds of plugboardlaw29.RecoveriesMarks cover all.
  Conditions: none.
-/
import Derived.Test.YtcipfcbaclfnhaaDoorMarksDefs
namespace Go.Proofs.YtcipfcbaclfnhaaDoor
open Go.Sy Go.RowKit

theorem marksRng_get (n b i : Nat) : (marksRng n b)[i]? = (if i = 0 then some (0, 10) else if i ≤ 32 then some (selB (isPl (i - 1)) (selB (Nat.beq i n) ((.ofNat b : Int), (.ofNat b : Int)) (0, 1)) (0, 0)) else if i = 33 then some (0, 4) else if i = 34 then some (0, 10) else none) := by
  cases i with
  | zero => rfl
  | succ k =>
    simp only [marksRng, List.cons_append, List.getElem?_cons_succ, Nat.succ_ne_zero, if_false, Nat.add_sub_cancel]
    by_cases hk : k < 32
    · rw [List.getElem?_append_left (by simpa using hk), List.getElem?_map, List.getElem?_range hk, if_pos (by omega)]
      rfl
    · rw [List.getElem?_append_right (by simpa using hk), if_neg (by omega)]
      simp only [List.length_map, List.length_range]
      by_cases h1 : k = 32
      · subst h1; rfl
      · by_cases h2 : k = 33
        · subst h2; rfl
        · rw [if_neg (by omega), if_neg (by omega)]
          exact List.getElem?_eq_none (by simp; omega)

theorem marks_case {ρ : Nat → Int} (h : RngR ρ (marksRng 0 0)) {n b : Nat} (hb : n ≤ 32 → ρ n = (b : Int)) : RngR ρ (marksRng n b) := by
  intro i lo hi hi'
  rw [marksRng_get] at hi'
  have h0 := h i lo hi
  rw [marksRng_get] at h0
  by_cases e0 : i = 0
  · rw [if_pos e0] at *; exact h0 hi'
  · rw [if_neg e0] at *
    by_cases e1 : i ≤ 32
    · rw [if_pos e1] at *
      by_cases e2 : i = n
      · subst e2
        cases hp : isPl (i - 1) with
        | false => rw [hp] at h0 hi'; exact h0 hi'
        | true =>
          rw [hp, (beq_iff i i).2 rfl] at hi'
          have hi' : some ((.ofNat b : Int), (.ofNat b : Int)) = some (lo, hi) := hi'
          simp at hi'
          rw [hb e1, ← hi'.1, ← hi'.2]
          exact ⟨Int.le_refl _, Int.le_refl _⟩
      · rw [(beq_false i n).2 e2] at hi'
        rw [(beq_false i 0).2 e0] at h0
        exact h0 hi'
    · rw [if_neg e1] at *; exact h0 hi'

/-- a mark is 0 or 1 -/
theorem marks_bit {ρ : Nat → Int} (h : RngR ρ (marksRng 0 0)) {i : Nat} (h0 : i ≠ 0) (h1 : i ≤ 32) : ρ i = 0 ∨ ρ i = 1 := by
  have hi := h i
  simp only [marksRng_get, if_neg h0, if_pos h1, (beq_false i 0).2 h0, selB_false] at hi
  cases hp : isPl (i - 1) with
  | true => rw [hp] at hi; have := hi 0 1 rfl; omega
  | false => rw [hp] at hi; have := hi 0 0 rfl; omega

theorem coverA : ∀ ρ, PcR ρ pnA.pc → ∃ q ∈ casesA, PcR ρ q := by
  intro ρ hp
  have hr : RngR ρ (marksRng 0 0) := hp.rng
  have hv := clampZ_in (lo := 0) (hi := 255) (v := ρ (rowVar 0 0 (ρ 34).toNat)) (by omega)
  obtain ⟨v, hv'⟩ := Int.eq_ofNat_of_zero_le hv.1
  have hlt : v < 256 := by omega
  have key : ∀ b : Nat, ρ (Nat.succ (1 + v % 15 + 16 * (v / 128))) = (b : Int) → PcR ρ (caseA v b) := fun b hb => by
    refine ⟨fun x hx => ?_, marks_case hr fun _ => hb⟩
    simp only [caseA, List.mem_singleton] at hx
    subst hx
    show (clampZ 0 255 (ρ (rowVar 0 0 (ρ 34).toNat)) == Int.ofNat v) = true
    rw [hv']; exact beq_self_eq_true _
  rcases marks_bit hr (i := Nat.succ (1 + v % 15 + 16 * (v / 128))) (by omega) (by omega) with h | h
  · exact ⟨caseA v 0, List.mem_flatMap.2 ⟨v, List.mem_range.2 hlt, .head _⟩, key 0 h⟩
  · exact ⟨caseA v 1, List.mem_flatMap.2 ⟨v, List.mem_range.2 hlt, .tail _ (.head _)⟩, key 1 h⟩

theorem coverB : ∀ n, ∀ ρ, PcR ρ (pnB n).pc → ∃ q ∈ casesB n, PcR ρ q := by
  intro n ρ hp
  have hr : RngR ρ (marksRng 0 0) := hp.rng
  have key : ∀ b : Nat, (Nat.succ n ≤ 32 → ρ (Nat.succ n) = (b : Int)) → PcR ρ (caseB n b) := fun b hb => ⟨fun x hx => by simp [caseB] at hx, marks_case hr hb⟩
  by_cases hn : Nat.succ n ≤ 32
  · rcases marks_bit hr (i := Nat.succ n) (by omega) hn with h | h
    · exact ⟨caseB n 0, .head _, key 0 fun _ => h⟩
    · exact ⟨caseB n 1, .tail _ (.head _), key 1 fun _ => h⟩
  · exact ⟨caseB n 0, .head _, key 0 fun h => absurd h hn⟩

end Go.Proofs.YtcipfcbaclfnhaaDoor
