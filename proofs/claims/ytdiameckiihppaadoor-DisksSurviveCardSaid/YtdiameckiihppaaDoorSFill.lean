/-
  What is proved here: the law's blocks of bytes.
  Conditions: none.
-/
import Derived.Test.YtdiameckiihppaaDoorSRead
namespace Go.Proofs.YtdiameckiihppaaDoor
open Go.Proofs Go.RowKit

attribute [local go_sem] lt2 lt3 lt4 lt5

/-- byte j of the block number i -/
def fillB (i j : Nat) : Int := ((i + 3 * j) % 256 : Nat)
/-- the first k bytes are written -/
def fillK (i k : Nat) : List Int := (List.range 64).map fun j => if j < k then fillB i j else 0
def fill (i : Nat) : List Int := (List.range 64).map (fillB i)

theorem fillK_zero (i : Nat) : fillK i 0 = zeros := by
  unfold fillK zeros
  apply List.ext_getElem
  · rw [List.length_map, List.length_range, List.length_replicate]
  · intro j h1 h2
    rw [List.getElem_map, if_neg (by omega), List.getElem_replicate]
theorem fillK_64 (i : Nat) : fillK i 64 = fill i := by
  unfold fillK fill
  apply List.map_congr_left
  intro j hj
  rw [if_pos (by simpa using hj)]
theorem fillK_len (i k : Nat) : (fillK i k).length = 64 := by simp [fillK]
theorem fillK_b (i k : Nat) : ∀ x ∈ fillK i k, 0 ≤ x ∧ x ≤ 255 := by
  intro x hx
  obtain ⟨j, _, rfl⟩ := List.mem_map.1 hx
  split
  · unfold fillB; omega
  · omega
theorem fillK_step (i k : Nat) : (fillK i k).set k (fillB i k) = fillK i (k + 1) := by
  unfold fillK
  apply List.ext_getElem
  · simp
  · intro j h1 h2
    simp only [List.length_map, List.length_range] at h2
    rw [List.getElem_set]
    simp only [List.getElem_map, List.getElem_range]
    by_cases hj : k = j
    · subst hj
      rw [if_pos rfl, if_pos (by omega)]
    · rw [if_neg hj]
      by_cases hl : j < k
      · rw [if_pos hl, if_pos (by omega)]
      · rw [if_neg hl, if_neg (by omega)]

theorem RowB.setCell {w : World} {g n c : Nat} {xs : List Int} (h : RowB w (some ⟨g, 0, none⟩) n c xs) {k : Nat} (hk : k < n) {x : Int} (hx : 0 ≤ x ∧ x ≤ 255) : RowB (w.setCell ⟨g, k, none⟩ (.int .u8 x)) (some ⟨g, 0, none⟩) n c (xs.set k x) := by
  obtain ⟨⟨h1, h2, h3, ⟨h4, _⟩ | ⟨b, off, cs, e0, hb, hsz, hcs⟩⟩, h5⟩ := h
  · cases h4
  cases e0
  refine ⟨⟨by rw [List.length_map, List.length_set]; simpa using h1, h2, fun u hu => ?_, .inr ⟨g, 0, _, rfl, setCell_heap hb k _, by simpa using hsz, fun j hj => ?_⟩⟩, fun y hy => ?_⟩
  · obtain ⟨y, _, rfl⟩ := List.mem_map.1 hu
    rfl
  · rw [Nat.zero_add, List.map_set]
    by_cases e : j = k
    · subst e
      rw [Array.getElem?_setIfInBounds_self_of_lt (by omega), List.getElem?_set_self (by rw [h1]; exact hk)]
    · rw [Array.getElem?_setIfInBounds_ne (by omega), List.getElem?_set_ne (by omega)]
      have := hcs j hj
      rwa [Nat.zero_add] at this
  · rcases List.mem_or_eq_of_mem_set hy with hy | rfl
    · exact h5 y hy
    · exact hx

set_option maxHeartbeats 4000000 in
set_option maxRecDepth 100000 in
theorem fill_ret (i : Nat) (w : World) (hi : i < 256) :
    Calls Tryd.prog 8 #[.int .u8 i, .int .i64 1] w fun e w' => Below w.heap.size w w' ∧ e = .returned (.slice (some ⟨w.heap.size, 0, none⟩) 64 64) ∧ RowB w' (some ⟨w.heap.size, 0, none⟩) 64 64 (fill i) := by
  obtain ⟨mc, hmk, hmc⟩ := make64 w
  have hnew : (w.alloc (.cells mc 5)).heap[w.heap.size]? = some (.cells mc 5 (0, 0)) := heap_alloc_new w _
  have hR0 : RowB (w.alloc (.cells mc 5)) (some ⟨w.heap.size, 0, none⟩) 64 64 (fillK i 0) := by rw [fillK_zero]; exact row64 hnew hmc (by decide) zeros_b
  have hb0 : Below w.heap.size w (w.alloc (.cells mc 5)) := (Below.refl _ _).alloc (Nat.le_refl _) _
  have H0 := Lib.hid (⟨hR0, hb0⟩ : _ ∧ _)
  clear hnew hR0 hmc hb0
  go_enter Tryd.func8, Tryd.ntmps8
  go_wp2_with fail
  go_loopw [6] (fun i' wr => ∃ k : Nat, i' = .int .i64 k ∧ k ≤ 64 ∧ Hid (Below w.heap.size w wr ∧ RowB wr (some ⟨w.heap.size, 0, none⟩) 64 64 (fillK i k))) (fun i' _ => 64 - (intOf i').toNat)
  case atStart => exact ⟨0, rfl, by omega, Lib.hid ⟨H0.out.2, H0.out.1⟩⟩
  case round =>
    obtain ⟨k, rfl, hk, HH⟩ := hrel
    by_cases hk64 : k < 64
    · obtain ⟨old, hcl, fr⟩ : ∃ old, wr.cell? ⟨w.heap.size, k, none⟩ = some (.int .u8 old) ∧ wr.frozen? ⟨w.heap.size, k, none⟩ = false := by
        obtain ⟨⟨hr1, hr2, hr3, ⟨h4, _⟩ | ⟨b, off, cs, e0, hbb, hsz, hcs⟩⟩, hr5⟩ := id HH.out.2
        · cases h4
        cases e0
        refine ⟨(fillK i k)[k]'(by rw [fillK_len]; exact hk64), ?_, frozen_of hbb k⟩
        rw [cell_of hbb k]
        have := hcs k hk64
        rw [Nat.zero_add] at this
        rw [this, List.getElem?_map, List.getElem?_eq_getElem (by rw [fillK_len]; exact hk64)]
        rfl
      have p1 : (k : Int).tdiv 64 = 0 := Int.tdiv_eq_zero_of_lt (by omega) (by omega)
      have p2 : (k : Int).tmod 64 = k := Int.tmod_eq_of_lt (by omega) (by omega)
      go_wp2_with fail
      go_roundw
      case rel =>
        refine ⟨k + 1, by go_num, by omega, Lib.hid ⟨HH.out.1.trans (((Wrote.refl w.heap.size wr).setCell k _).below (Nat.le_refl _)), ?_⟩⟩
        have hv : (((i : Int) + (k : Int) * 3) % 256) = fillB i k := by unfold fillB; omega
        rw [hv, ← fillK_step]
        exact HH.out.2.setCell hk64 (by unfold fillB; omega)
      case measure => simp [intOf]; omega
    · obtain rfl : k = 64 := by omega
      go_wp2_with fail
      go_ret
      exact ⟨HH.out.1, rfl, by rw [← fillK_64]; exact HH.out.2⟩
end Go.Proofs.YtdiameckiihppaaDoor
