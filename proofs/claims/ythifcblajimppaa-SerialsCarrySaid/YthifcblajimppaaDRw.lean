/-
  What is proved here: rows that may begin at an offset and may have room (of elements of one cell): what stands in them, the rest behind the first element.
  Conditions: none.
-/
import Derived.Test.YthifcblajimppaaDHear
namespace Go.Proofs.Ythifcblajimppaa
open Go.Proofs Go.RowKit
def RowAt (w : World) (e : TypeId) (A : Option Addr) (n c : Nat) (xs : List Value) : Prop :=
 xs.length = n ∧ n ≤ c ∧ (∀ u ∈ xs, u.oneCell' = true) ∧ ((A = none ∧ n = 0 ∧ c = 0) ∨ ∃ b off cs, A = some ⟨b, off, none⟩ ∧ w.heap[b]? = some (.cells cs e (0, 0)) ∧ off + c ≤ cs.size ∧ ∀ j, j < n → cs[off + j]? = xs[j]?)
theorem RowAt.keep {w w' : World} {e : TypeId} {A : Option Addr} {n c : Nat} {xs : List Value} (h : RowAt w e A n c xs) (hk : ∀ a, A = some a → w'.heap[a.block]? = w.heap[a.block]?) : RowAt w' e A n c xs := by
 obtain ⟨h1, h2, h3, h4⟩ := h
 refine ⟨h1, h2, h3, h4.imp id ?_⟩
 rintro ⟨b, off, cs, rfl, h5, h6, h7⟩
 exact ⟨b, off, cs, rfl, (hk _ rfl).trans h5, h6, h7⟩
theorem RowAt.nil (w : World) (e : TypeId) : RowAt w e none 0 0 [] := ⟨rfl, Nat.le_refl _, (fun _ h => nomatch h), .inl ⟨rfl, rfl, rfl⟩⟩
theorem RowAt.tail {w : World} {e : TypeId} {a : Addr} {n c : Nat} {x : Value} {xs : List Value} (h : RowAt w e (some a) (n + 1) c (x :: xs)) : RowAt w e (some (a.add 1)) n (c - 1) xs := by
 obtain ⟨h1, h2, h3, h4⟩ := h
 refine ⟨by simpa using h1, by omega, fun u hu => h3 u (List.mem_cons_of_mem _ hu), .inr ?_⟩
 rcases h4 with ⟨h4, _⟩ | ⟨b, off, cs, e, h5, h6, h7⟩
 ·cases h4
 cases e
 refine ⟨b, off + 1, cs, by simp [Addr.add], h5, by omega, fun j hj => ?_⟩
 have := h7 (j + 1) (by omega)
 rw [show off + 1 + j = off + (j + 1) by omega, this]
 rfl
theorem RowAt.cell {w : World} {e : TypeId} {a : Addr} {n c : Nat} {xs : List Value} (h : RowAt w e (some a) n c xs) {j : Nat} (hj : j < n) : w.cell? (a.add j) = xs[j]? := by
 obtain ⟨h1, h2, h3, ⟨h4, _⟩ | ⟨b, off, cs, e, h5, h6, h7⟩⟩ := h
 ·cases h4
 cases e
 rw [show (⟨b, off, none⟩ : Addr).add j = ⟨b, off + j, none⟩ by unfold Addr.add; split <;> simp_all]
 exact (cell_of h5 (off + j)).trans (h7 j hj)
theorem RowAt.none1 {w : World} {e : TypeId} {a : Addr} {c : Nat} {x : Value} (h : RowAt w e (some a) 1 c [x]) : RowAt w e (some a) 0 (c - 1) [] := by
 obtain ⟨h1, h2, h3, ⟨h4, _⟩ | ⟨b, off, cs, e, h5, h6, h7⟩⟩ := h
 ·cases h4
 cases e
 exact ⟨rfl, by omega, (fun _ h => nomatch h), .inr ⟨b, off, cs, rfl, h5, by omega, fun j hj => by omega⟩⟩
end Go.Proofs.Ythifcblajimppaa
