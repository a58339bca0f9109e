/-
  What is proved here: plain words for lists of bytes: slices that read as lists, the order of lists, prefixes.
  Conditions: none.
-/
import Derived.Test.YthifcblajimppaaChecked
import Derived.Lib.Strings
import Derived.Lib.Slices
import Derived.Lib.Walk
import Derived.Lib.Hide
import Derived.Below
import Derived.Deep.RegionHeld
import Derived.Laws.BytesArg
import Derived.Deep.Draws
namespace Go.Proofs.Ythifcblajimppaa
open Go.Proofs Go.RowKit
def U8 (w : World) (A : Option Addr) (n c : Nat) (xs : List Int) : Prop :=
 xs.length = n ∧ (∀ x ∈ xs, 0 ≤ x ∧ x ≤ 255) ∧ n ≤ c ∧ ((A = none ∧ n = 0 ∧ c = 0) ∨ ∃ a : Addr, A = some a ∧ ∀ j, j < n → w.cell? (a.add j) = some (.int .u8 (xs[j]?.getD 0)))
theorem U8.keep {w w' : World} {A : Option Addr} {n c : Nat} {xs : List Int} (h : U8 w A n c xs) (hk : ∀ p u, w.cell? p = some u → w'.cell? p = some u) : U8 w' A n c xs := by
 obtain ⟨h1, h2, hc, h3⟩ := h
 refine ⟨h1, h2, hc, h3.imp id ?_⟩
 rintro ⟨a, rfl, h4⟩
 exact ⟨a, rfl, fun j hj => hk _ _ (h4 j hj)⟩
theorem U8.below {w w' : World} {A : Option Addr} {n c : Nat} {xs : List Int} (h : U8 w A n c xs) (hb : Below w.heap.size w w') : U8 w' A n c xs :=
 h.keep fun _ _ hp => (hb.cell (World.block_lt_of_cell? _ _ hp)).trans hp
theorem U8.drewN {w : World} {A : Option Addr} {n c : Nat} {xs : List Int} (h : U8 w A n c xs) (q : Nat) : U8 (w.drewN q) A n c xs := h
theorem U8.alloc {w : World} {A : Option Addr} {n c : Nat} {xs : List Int} (h : U8 w A n c xs) (o : Obj) : U8 (w.alloc o) A n c xs :=
 h.keep fun _ _ hp => (World.cell?_alloc_lt _ _ _ (World.block_lt_of_cell? _ _ hp)).trans hp
theorem U8.take {w : World} {A : Option Addr} {n c : Nat} {xs : List Int} (h : U8 w A n c xs) {k : Nat} (hk : k ≤ n) : U8 w A k c (xs.take k) := by
 obtain ⟨h1, h2, hc, h3⟩ := h
 refine ⟨by rw [List.length_take]; omega, fun x hx => h2 x (List.mem_of_mem_take hx), by omega, ?_⟩
 rcases h3 with ⟨rfl, h3, h4⟩ | ⟨a, rfl, h3⟩
 ·exact .inl ⟨rfl, by omega, h4⟩
 ·exact .inr ⟨a, rfl, fun j hj => by rw [List.getElem?_take, if_pos hj]; exact h3 j (by omega)⟩
theorem U8.text {P : Program} {w : World} {A : Option Addr} {n c : Nat} {xs : List Int} (h : U8 w A n c xs) {src dst e : TypeId} (hs : P.underlying src = some (.slice e)) (he : P.underlying e = some (.int .u8)) (hd : P.underlying dst = some .string) (q : Nat) :
  (convert src dst (.slice A n c)).run P (w.drewN q) = .ok (.string (strOfNums xs)) (w.drewN q) := by
 obtain ⟨h1, _, _, ⟨rfl, h2, _⟩ | ⟨a, rfl, h2⟩⟩ := h
 ·subst h2
  have e0 := List.length_eq_zero_iff.1 h1
  subst e0
  exact run_convert_bytes_nil (w.drewN q) src e hs he 0 c dst hd
 ·have hl : (loadCells a n).run P (w.drewN q) = .ok (xs.map (Value.int .u8)).toArray (w.drewN q) := by
   have := run_loadCells_list (P := P) (w.drewN q) a (xs.map (Value.int .u8)) (fun j v hj => by
    rw [List.getElem?_map, Option.map_eq_some_iff] at hj
    obtain ⟨x, hx, rfl⟩ := hj
    have hjn : j < n := by rw [← h1]; exact (List.getElem?_eq_some_iff.1 hx).1
    have hcx := h2 j hjn
    rw [hx] at hcx
    exact hcx)
   simpa [h1] using this
  rw [run_convert_bytes_string (w.drewN q) src dst e _ n c hs he hd, run_bytesToString (w.drewN q) _ n c xs hl, foldl_push_bytes]
  simp [strOfNums, ByteArray.empty, ByteArray.emptyWithCapacity]
  rfl
end Go.Proofs.Ythifcblajimppaa
