/-
  What is proved here: the parts cover all inputs.
  Conditions: none.
-/
import Derived.Test.YtgjhgbhoidnbfaaGreatDoorTBase
namespace Go.Proofs.YtgjhgbhoidnbfaaGreatDoor
open Go.Sy Go.RowKit

def terrParts : List (Int × Int) := [(-9223372036854775808, 0), (1, 1), (2, 2), (3, 3), (4, 4), (5, 5), (6, 6), (7, 7), (8, 9223372036854775807)]
noncomputable def terrPcs : List Pc := terrParts.flatMap fun r => (List.range 5).flatMap fun a => (List.range 6).map fun b => terrPc r a b

theorem terr_cover : ∀ ρ, PcR ρ ⟨[], paR terrPa⟩ → ∃ q ∈ terrPcs, PcR ρ q := by
  intro ρ hp
  have g0 := hp.rng 0 (-9223372036854775808) 9223372036854775807 (by rfl)
  have g1 := hp.rng 1 0 255 (by rfl)
  have g2 := hp.rng 2 0 255 (by rfl)
  have hr : ∃ r ∈ terrParts, r.1 ≤ ρ 0 ∧ ρ 0 ≤ r.2 := by
    simp only [terrParts, List.mem_cons, List.not_mem_nil, or_false, exists_eq_or_imp, exists_eq_left]
    omega
  obtain ⟨r, hr, h0, h1⟩ := hr
  obtain ⟨x, hx⟩ := Int.eq_ofNat_of_zero_le g1.1
  obtain ⟨y, hy⟩ := Int.eq_ofNat_of_zero_le g2.1
  refine ⟨terrPc r (x % 5) (y % 6), ?_, ?_, ?_⟩
  · simp only [terrPcs, List.mem_flatMap, List.mem_map, List.mem_range]
    exact ⟨r, hr, x % 5, by omega, y % 6, by omega, rfl⟩
  · intro d hd
    have hd : d = (.eq (.bin .rem .u8 (.x 1) (.n 5)) (.n (.ofNat (x % 5))), true) ∨ d = (.eq (.bin .rem .u8 (.x 2) (.n 6)) (.n (.ofNat (y % 6))), true) := by simpa [terrPc] using hd
    rcases hd with rfl | rfl
    · show ((ρ 1).tmod 5 == Int.ofNat (x % 5)) = true
      rw [hx]; exact beq_iff_eq.2 (Int.ofNat_tmod x 5).symm
    · show ((ρ 2).tmod 6 == Int.ofNat (y % 6)) = true
      rw [hy]; exact beq_iff_eq.2 (Int.ofNat_tmod y 6).symm
  · intro i l u hi
    have hi : (setRng (paR terrPa) 0 fun _ => r)[i]? = some (l, u) := hi
    rw [setRng_get] at hi
    by_cases h : i = 0
    · subst h
      rw [if_pos rfl] at hi
      obtain ⟨_, _, h3⟩ := Option.map_eq_some_iff.1 hi
      have h3 : r = (l, u) := h3
      rw [h3] at h0 h1
      exact ⟨h0, h1⟩
    · rw [if_neg h] at hi
      exact hp.rng i l u hi

end Go.Proofs.YtgjhgbhoidnbfaaGreatDoor
