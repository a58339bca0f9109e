/-
  What is proved here: the front of a row of elements of several cells; an append that stays in place.
  Conditions: none.
-/
import Derived.Test.YtdiameckiihppaaDoorSBase
namespace Go.Proofs.YtdiameckiihppaaDoor
open Go.Proofs Go.RowKit

theorem RowF.take {w : World} {e : TypeId} {sz : Nat} {A : Option Addr} {n c : Nat} {xs : List Value} (h : RowF w e sz A n c xs) {k : Nat} (hk : k ≤ n) : RowF w e sz A k c (xs.take (k * sz)) := by
  obtain ⟨h1, h2, h3, h4⟩ := h
  have hm : k * sz ≤ n * sz := Nat.mul_le_mul_right sz hk
  refine ⟨by rw [List.length_take, h1]; omega, by omega, fun u hu => h3 u (List.mem_of_mem_take hu), h4.imp (fun ⟨a, b, c⟩ => ⟨a, by omega, c⟩) ?_⟩
  rintro ⟨b, off, cs, rfl, h5, h6, h7⟩
  exact ⟨b, off, cs, rfl, h5, h6, fun j hj => by rw [List.getElem?_take, if_pos hj]; exact h7 j (by omega)⟩

theorem RowF.append_room {P : Program} {w : World} {t e : TypeId} {i : TypeInfo} {sz : Nat} (ht : P.underlying t = some (.slice e)) (hi : P.info? e = some i) (hs : i.size = sz) {a0 : Addr} {n c : Nat} {xs : List Value} (h : RowF w e sz (some a0) n c xs)
    (ad : Addr) (m c' : Nat) (news : List Value) (hl : news.length = m * sz) (hnews : ∀ j u, news[j]? = some u → w.cell? (ad.add j) = some u) (h1 : ∀ u ∈ news, u.oneCell' = true) (hroom : n + m ≤ c) :
    ∃ w', (Builtin.append_ #[t, t] t #[.slice (some a0) n c, .slice (some ad) m c']).run P w = .ok (.slice (some a0) (n + m) c) w' ∧ RowF w' e sz (some a0) (n + m) c (xs ++ news) ∧ Wrote a0.block w w' := by
  obtain ⟨hx1, hx2, hx3, ⟨h4, _⟩ | ⟨b, off, cs, e0, hb, hsz, hcs⟩⟩ := h
  · cases h4
  cases e0
  have hnm : (n + m) * sz = n * sz + m * sz := Nat.add_mul n m sz
  have hcm : n * sz + m * sz ≤ c * sz := by rw [← hnm]; exact Nat.mul_le_mul_right sz hroom
  obtain ⟨cs', k1, k2, k3, k4, k5⟩ := setCells_heap news (off + n * sz) w cs hb (by omega)
  have hr := run_append_room_cells (P := P) w t t e i ht hi b off n c ad m c' news (by rw [hl, hs]) hnews h1 hroom
    (fun j hj => by rw [hs, cell_of hb (off + n * sz + j)]; rw [Array.getElem?_eq_getElem (by omega)]; rfl) (fun j hj => by rw [hs]; exact frozen_of hb _)
  rw [hs] at hr
  refine ⟨_, hr, ⟨by rw [List.length_append, hx1, hl, hnm], hroom, fun u hu => (List.mem_append.1 hu).elim (hx3 u) (h1 u), .inr ⟨b, off, cs', rfl, k1, by omega, fun j hj => ?_⟩⟩, k5⟩
  by_cases hj2 : j < n * sz
  · rw [k4 _ (by omega), hcs j hj2, List.getElem?_append_left (by omega)]
  · rw [show off + j = off + n * sz + (j - n * sz) by omega, k3 _ (by omega), List.getElem?_append_right (by omega), hx1]

/-- one element of several cells is cleared -/
theorem run_clear_one {P : Program} (w : World) (t e ty : TypeId) (z : Value) (ht : P.underlying t = some (.slice e)) (hv : ∀ w, (zeroValue e).run P w = .ok z w) (h1 : ∀ u ∈ z.cells.toList, u.oneCell' = true) (b o c : Nat)
    (hc : ∀ j, j < z.cells.size → (w.cell? ⟨b, o + j, none⟩).isSome = true) (hf : ∀ j, j < z.cells.size → w.frozen? ⟨b, o + j, none⟩ = false) :
    (Builtin.clear_ #[t] ty #[.slice (some ⟨b, o, none⟩) 1 c]).run P w = .ok (.tuple #[]) (w.setCells b o z.cells.toList) := by
  have hzc : (Builtin.zeroCells z.cells 1).toList = z.cells.toList := by
    simp [Builtin.zeroCells]
    apply List.ext_getElem
    · simp
    · intro i h1 h2
      simp at h1
      simp [Nat.mod_eq_of_lt h1, h1]
  have hst := run_storeCells_cells (P := P) b o z.cells.toList 0 w (by simpa using hc) (by simpa using hf) h1
  simp only [Nat.add_zero] at hst
  simp [Builtin.clear_, run_underlying ht, hv w, hzc, hst]
end Go.Proofs.YtdiameckiihppaaDoor
