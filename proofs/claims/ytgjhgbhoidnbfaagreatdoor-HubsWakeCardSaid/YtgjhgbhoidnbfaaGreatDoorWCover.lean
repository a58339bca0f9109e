/-
  What is proved here: the parts cover all inputs of plugboardlaw18.HubsWake.
  Conditions: none.
-/
import Derived.Test.YtgjhgbhoidnbfaaGreatDoorWBase
namespace Go.Proofs.YtgjhgbhoidnbfaaGreatDoor
open Go.Sy Go.RowKit

def wakeAll : List (Nat × Nat × Nat × Nat) := (List.range 8).flatMap wakeBoxes

theorem wquo_den {x : Nat} (hx : x < 256) (d : Nat) : wrapZ .u64 (Int.tdiv (x : Int) (Int.ofNat d)) = ((x / d : Nat) : Int) := by
  have e : Int.tdiv (x : Int) (Int.ofNat d) = ((x / d : Nat) : Int) := (Int.ofNat_tdiv x d).symm
  have h : x / d ≤ x := Nat.div_le_self x d
  rw [e, wrapZ_eq, wrap_in]
  · exact Int.natCast_nonneg _
  · simp only [kMax, limN]; omega

theorem wrem_ok {ρ : Nat → Int} {e : E} {x : Nat} (h : e.den ρ = (x : Int)) (k : IntKind) (a : Nat) : (wrem k e a (x % a)).1.den ρ = (wrem k e a (x % a)).2 := by
  show ((e.den ρ).tmod (Int.ofNat a) == Int.ofNat (x % a)) = true
  rw [h]; exact beq_iff_eq.2 (Int.ofNat_tmod x a).symm

theorem wake_cover : ∀ ρ, PcR ρ ⟨[], paR wakePa⟩ → ∃ q ∈ wakeAll.map wakePc, PcR ρ q := by
  intro ρ hp
  have g0 := hp.rng 0 0 255 (by rfl)
  have g1 := hp.rng 1 0 255 (by rfl)
  obtain ⟨x, hx⟩ := Int.eq_ofNat_of_zero_le g0.1
  obtain ⟨y, hy⟩ := Int.eq_ofNat_of_zero_le g1.1
  have hx2 : x < 256 := by omega
  have hy2 : y < 256 := by omega
  have q0 : ∀ d, (wquo (.x 0) d).den ρ = ((x / d : Nat) : Int) := fun d => by
    show wrapZ .u64 ((ρ 0).tdiv (Int.ofNat d)) = _
    rw [hx]; exact wquo_den hx2 d
  have q1 : ∀ d, (wquo (.x 1) d).den ρ = ((y / d : Nat) : Int) := fun d => by
    show wrapZ .u64 ((ρ 1).tdiv (Int.ofNat d)) = _
    rw [hy]; exact wquo_den hy2 d
  refine ⟨wakePc (x / 4 % 2, x / 8 % 2, x % selB (Nat.beq (x / 4 % 2) 0) 4 7, y % 8), List.mem_map.2 ⟨_, ?_, rfl⟩, ?_, hp.rng⟩
  · refine List.mem_flatMap.2 ⟨y % 8, List.mem_range.2 (by omega), List.mem_flatMap.2 ⟨x / 8 % 2, List.mem_range.2 (by omega), ?_⟩⟩
    rcases (show x / 4 % 2 = 0 ∨ x / 4 % 2 = 1 by omega) with e | e
    · rw [e]
      exact List.mem_append_left _ (List.mem_map.2 ⟨x % 4, List.mem_range.2 (by omega), rfl⟩)
    · rw [e]
      exact List.mem_append_right _ (List.mem_map.2 ⟨x % 7, List.mem_range.2 (by omega), rfl⟩)
  · intro d hd
    have e1 : y % 8 % 2 = y % 2 := by omega
    have e2 : y % 8 / 2 % 2 = y / 2 % 2 := by omega
    have e3 : y % 8 / 4 % 2 = y / 4 % 2 := by omega
    simp only [wakePc, e1, e2, e3, List.mem_cons, List.not_mem_nil, or_false] at hd
    rcases hd with rfl | rfl | rfl | rfl | rfl | rfl
    · exact wrem_ok (q0 4) _ 2
    · exact wrem_ok (q0 8) _ 2
    · exact wrem_ok (show (E.x 0).den ρ = x from hx) _ _
    · exact wrem_ok (show (E.x 1).den ρ = y from hy) _ 2
    · exact wrem_ok (q1 2) _ 2
    · exact wrem_ok (q1 4) _ 2

end Go.Proofs.YtgjhgbhoidnbfaaGreatDoor
