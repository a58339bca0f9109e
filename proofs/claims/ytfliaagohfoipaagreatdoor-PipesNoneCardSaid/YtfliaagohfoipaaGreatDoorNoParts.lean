/-
  What is proved here: all runs of plugboardlaw23.PipesNone return true, and they cover every input.
  Conditions: the table of the pipes' package is laid.
-/
import Derived.Test.YtfliaagohfoipaaGreatDoorNoRun0
import Derived.Test.YtfliaagohfoipaaGreatDoorNoRun1
import Derived.Test.YtfliaagohfoipaaGreatDoorNoRun2
import Derived.Test.YtfliaagohfoipaaGreatDoorNoRun3
import Derived.Test.YtfliaagohfoipaaGreatDoorNoRun4
import Derived.Test.YtfliaagohfoipaaGreatDoorNoRun5
namespace Go.Proofs.YtfliaagohfoipaaGreatDoor
open Go.Sy Go.RowKit

set_option maxRecDepth 1000000

noncomputable def noParts : List Pc := [noQ 0 0 0 9, noQ 0 0 1 9, noQ 0 1 0 9, noQ 0 1 1 9, noQ 0 2 0 9, noQ 0 2 1 9, noQ 1 0 0 9, noQ 1 0 1 9, noQ 1 1 0 9, noQ 1 1 1 9, noQ 1 2 0 9, noQ 1 2 1 9, noQ 2 0 0 9, noQ 2 0 1 9, noQ 2 1 0 9, noQ 2 1 1 9, noQ 2 2 0 9, noQ 2 2 1 9, noQ 3 0 0 9, noQ 3 0 1 9, noQ 3 1 0 9, noQ 3 1 1 9, noQ 3 2 0 0, noQ 3 2 0 1, noQ 3 2 0 2, noQ 3 2 0 3, noQ 3 2 0 4, noQ 3 2 0 5, noQ 3 2 0 6, noQ 3 2 0 7, noQ 3 2 0 8, noQ 3 2 1 0, noQ 3 2 1 1, noQ 3 2 1 2, noQ 3 2 1 3, noQ 3 2 1 4, noQ 3 2 1 5, noQ 3 2 1 6, noQ 3 2 1 7, noQ 3 2 1 8]

theorem no_runs : ∀ q ∈ noParts, allTrue (evFn Tryz.prog kwP 10 20 3 (paV noPa 0 0) (mem1 pG noPa) q) = true := by
  simp only [noParts, List.forall_mem_cons]
  exact ⟨no_0_0_0_9, no_0_0_1_9, no_0_1_0_9, no_0_1_1_9, no_0_2_0_9, no_0_2_1_9, no_1_0_0_9, no_1_0_1_9, no_1_1_0_9, no_1_1_1_9, no_1_2_0_9, no_1_2_1_9, no_2_0_0_9, no_2_0_1_9, no_2_1_0_9, no_2_1_1_9, no_2_2_0_9, no_2_2_1_9, no_3_0_0_9, no_3_0_1_9, no_3_1_0_9, no_3_1_1_9, no_3_2_0_0, no_3_2_0_1, no_3_2_0_2, no_3_2_0_3, no_3_2_0_4, no_3_2_0_5, no_3_2_0_6, no_3_2_0_7, no_3_2_0_8, no_3_2_1_0, no_3_2_1_1, no_3_2_1_2, no_3_2_1_3, no_3_2_1_4, no_3_2_1_5, no_3_2_1_6, no_3_2_1_7, no_3_2_1_8, fun _ h => nomatch h⟩

theorem noset_get : ∀ {rng : List (Int × Int)} {i j : Nat} {f : Int × Int → Int × Int}, (setRng rng i f)[j]? = (rng[j]?).map fun r => if i = j then f r else r
  | [], i, j, f => by simp [setRng]
  | x :: l, 0, 0, f => by simp [setRng]
  | x :: l, 0, j + 1, f => by simp [setRng]
  | x :: l, i + 1, 0, f => by simp [setRng]
  | x :: l, i + 1, j + 1, f => by
    have := noset_get (rng := l) (i := i) (j := j) (f := f)
    simpa [setRng] using this

theorem noset_R {ρ : Nat → Int} {rng : List (Int × Int)} {k : Nat} {a b : Int} (hr : ∀ i lo hi, rng[i]? = some (lo, hi) → lo ≤ ρ i ∧ ρ i ≤ hi) (h : a ≤ ρ k ∧ ρ k ≤ b) :
    ∀ i lo hi, (setRng rng k fun _ => (a, b))[i]? = some (lo, hi) → lo ≤ ρ i ∧ ρ i ≤ hi := by
  intro i lo hi hi'
  rw [noset_get] at hi'
  cases hg : rng[i]? with
  | none => rw [hg] at hi'; simp at hi'
  | some r =>
    rw [hg] at hi'
    by_cases e : k = i
    · subst e; simp at hi'; omega
    · simp [e] at hi'
      exact hr i lo hi (by rw [hg, hi'])

theorem rem_F {ρ : Nat → Int} {i n x : Nat} (hx : ρ i = (x : Int)) : (remF i n (x % n)).1.den ρ = (remF i n (x % n)).2 := by
  show ((ρ i).tmod (n : Int) == Int.ofNat (x % n)) = true
  rw [hx]; exact beq_iff_eq.2 (Int.ofNat_tmod x n).symm

theorem no_cover {ρ : Nat → Int} (hp : PcR ρ ⟨[], paR noPa⟩) : ∃ q ∈ noParts, PcR ρ q := by
  have hr := hp.rng
  have g0 := hr 0 0 255 (by rfl)
  have g1 := hr 1 0 255 (by rfl)
  have g2 := hr 2 0 1 (by rfl)
  have g4 := hr 4 0 255 (by rfl)
  obtain ⟨x, hx⟩ := Int.eq_ofNat_of_zero_le g0.1
  obtain ⟨y, hy⟩ := Int.eq_ofNat_of_zero_le g1.1
  obtain ⟨d, hd⟩ := Int.eq_ofNat_of_zero_le g2.1
  obtain ⟨z, hz⟩ := Int.eq_ofNat_of_zero_le g4.1
  have key : ∀ j, (j = 9 ∨ j = z % 9) → PcR ρ (noQ (x % 4) (y % 3) d j) := by
    intro j hj
    refine ⟨fun c hc => ?_, noset_R hr ⟨by rw [hd]; exact Int.le_refl _, by rw [hd]; exact Int.le_refl _⟩⟩
    rcases hj with rfl | rfl
    · have hc : c ∈ [remF 0 4 (x % 4), remF 1 3 (y % 3)] := hc
      rcases List.mem_cons.1 hc with rfl | hc
      · exact rem_F hx
      · obtain rfl := List.mem_singleton.1 hc
        exact rem_F hy
    · have hb : Nat.blt (z % 9) 9 = true := (blt_iff _ _).2 (by omega)
      unfold noQ at hc
      rw [hb] at hc
      have hc : c ∈ [remF 0 4 (x % 4), remF 1 3 (y % 3), remF 4 9 (z % 9)] := hc
      rcases List.mem_cons.1 hc with rfl | hc
      · exact rem_F hx
      · rcases List.mem_cons.1 hc with rfl | hc
        · exact rem_F hy
        · obtain rfl := List.mem_singleton.1 hc
          exact rem_F hz
  have hm : ∀ a b d j, a < 4 → b < 3 → d < 2 → j < 9 → noQ a b d j ∈ noParts ∨ noQ a b d 9 ∈ noParts := by
    intro a b d j ha hb hd hj
    match a, b, d, j, ha, hb, hd, hj with
    | 0, 0, 0, _, _, _, _, _ => exact .inr (by simp [noParts])
    | 0, 0, 1, _, _, _, _, _ => exact .inr (by simp [noParts])
    | 0, 1, 0, _, _, _, _, _ => exact .inr (by simp [noParts])
    | 0, 1, 1, _, _, _, _, _ => exact .inr (by simp [noParts])
    | 0, 2, 0, _, _, _, _, _ => exact .inr (by simp [noParts])
    | 0, 2, 1, _, _, _, _, _ => exact .inr (by simp [noParts])
    | 1, 0, 0, _, _, _, _, _ => exact .inr (by simp [noParts])
    | 1, 0, 1, _, _, _, _, _ => exact .inr (by simp [noParts])
    | 1, 1, 0, _, _, _, _, _ => exact .inr (by simp [noParts])
    | 1, 1, 1, _, _, _, _, _ => exact .inr (by simp [noParts])
    | 1, 2, 0, _, _, _, _, _ => exact .inr (by simp [noParts])
    | 1, 2, 1, _, _, _, _, _ => exact .inr (by simp [noParts])
    | 2, 0, 0, _, _, _, _, _ => exact .inr (by simp [noParts])
    | 2, 0, 1, _, _, _, _, _ => exact .inr (by simp [noParts])
    | 2, 1, 0, _, _, _, _, _ => exact .inr (by simp [noParts])
    | 2, 1, 1, _, _, _, _, _ => exact .inr (by simp [noParts])
    | 2, 2, 0, _, _, _, _, _ => exact .inr (by simp [noParts])
    | 2, 2, 1, _, _, _, _, _ => exact .inr (by simp [noParts])
    | 3, 0, 0, _, _, _, _, _ => exact .inr (by simp [noParts])
    | 3, 0, 1, _, _, _, _, _ => exact .inr (by simp [noParts])
    | 3, 1, 0, _, _, _, _, _ => exact .inr (by simp [noParts])
    | 3, 1, 1, _, _, _, _, _ => exact .inr (by simp [noParts])
    | 3, 2, 0, 0, _, _, _, _ => exact .inl (by simp [noParts])
    | 3, 2, 0, 1, _, _, _, _ => exact .inl (by simp [noParts])
    | 3, 2, 0, 2, _, _, _, _ => exact .inl (by simp [noParts])
    | 3, 2, 0, 3, _, _, _, _ => exact .inl (by simp [noParts])
    | 3, 2, 0, 4, _, _, _, _ => exact .inl (by simp [noParts])
    | 3, 2, 0, 5, _, _, _, _ => exact .inl (by simp [noParts])
    | 3, 2, 0, 6, _, _, _, _ => exact .inl (by simp [noParts])
    | 3, 2, 0, 7, _, _, _, _ => exact .inl (by simp [noParts])
    | 3, 2, 0, 8, _, _, _, _ => exact .inl (by simp [noParts])
    | 3, 2, 1, 0, _, _, _, _ => exact .inl (by simp [noParts])
    | 3, 2, 1, 1, _, _, _, _ => exact .inl (by simp [noParts])
    | 3, 2, 1, 2, _, _, _, _ => exact .inl (by simp [noParts])
    | 3, 2, 1, 3, _, _, _, _ => exact .inl (by simp [noParts])
    | 3, 2, 1, 4, _, _, _, _ => exact .inl (by simp [noParts])
    | 3, 2, 1, 5, _, _, _, _ => exact .inl (by simp [noParts])
    | 3, 2, 1, 6, _, _, _, _ => exact .inl (by simp [noParts])
    | 3, 2, 1, 7, _, _, _, _ => exact .inl (by simp [noParts])
    | 3, 2, 1, 8, _, _, _, _ => exact .inl (by simp [noParts])
    | _ + 4, _, _, _, h, _, _, _ => exact absurd h (by omega)
    | _, _ + 3, _, _, _, h, _, _ => exact absurd h (by omega)
    | _, _, _ + 2, _, _, _, h, _ => exact absurd h (by omega)
    | _, _, _, _ + 9, _, _, _, h => exact absurd h (by omega)
  rcases hm (x % 4) (y % 3) d (z % 9) (by omega) (by omega) (by omega) (by omega) with h | h
  · exact ⟨_, h, key _ (.inr rfl)⟩
  · exact ⟨_, h, key _ (.inl rfl)⟩

end Go.Proofs.YtfliaagohfoipaaGreatDoor
