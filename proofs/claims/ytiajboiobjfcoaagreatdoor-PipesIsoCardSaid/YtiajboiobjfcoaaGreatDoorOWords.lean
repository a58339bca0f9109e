/-
  What is proved here: plain words for lists of bytes: slices that read as lists, the order of lists, prefixes.
  Conditions: none.
-/
import Derived.Test.YtiajboiobjfcoaaGreatDoorChecked
import Derived.Lib.Strings
import Derived.Lib.Slices
import Derived.Lib.Walk
import Derived.Lib.Hide
import Derived.Below
import Derived.Deep.RegionHeld
import Derived.Laws.BytesArg
import Derived.Deep.Draws
namespace Go.Proofs.YtiajboiobjfcoaaGreatDoor
open Go.Proofs Go.RowKit
def U8 (w : World) (A : Option Addr) (n c : Nat) (xs : List Int) : Prop :=
 xs.length = n ∧ (∀ x ∈ xs, 0 ≤ x ∧ x ≤ 255) ∧ n ≤ c ∧ ((A = none ∧ n = 0 ∧ c = 0) ∨ ∃ a : Addr, A = some a ∧ ∀ j, j < n → w.cell? (a.add j) = some (.int .u8 (xs[j]?.getD 0)))
theorem U8.keep {w w' : World} {A : Option Addr} {n c : Nat} {xs : List Int} (h : U8 w A n c xs) (hk : ∀ p u, w.cell? p = some u → w'.cell? p = some u) : U8 w' A n c xs := by
 obtain ⟨h1, h2, hc, h3⟩ := h
 refine ⟨h1, h2, hc, h3.imp id ?_⟩
 rintro ⟨a, rfl, h4⟩
 exact ⟨a, rfl, fun j hj => hk _ _ (h4 j hj)⟩
theorem U8.below {w w' : World} {A : Option Addr} {n c : Nat} {xs : List Int} (h : U8 w A n c xs) (hb : Below w.heap.size w w') : U8 w' A n c xs :=
 h.keep fun _ _ hp => (hb.cell (World.block_lt_of_cell? _ _ hp)).trans hp
theorem str_inj : ∀ (a b : List Int), (∀ x ∈ a, 0 ≤ x ∧ x ≤ 255) → (∀ x ∈ b, 0 ≤ x ∧ x ≤ 255) → (strOfNums a).toList = (strOfNums b).toList → a = b := by
 intro a b ha hb h
 have e : ∀ l : List Int, (strOfNums l).toList = l.map fun n => UInt8.ofNat n.toNat := by
  intro l
  rw [ByteArray.toList_eq]
  simp [strOfNums]
 rw [e, e] at h
 clear e
 induction a generalizing b with
 | nil => cases b with
  | nil => rfl
  | cons y b => cases h
 | cons x a ih => cases b with
  | nil => cases h
  | cons y b =>
   simp only [List.map_cons, List.cons.injEq] at h
   have hx := ha x (List.mem_cons_self ..)
   have hy := hb y (List.mem_cons_self ..)
   have h1 : (UInt8.ofNat x.toNat).toNat = (UInt8.ofNat y.toNat).toNat := by rw [h.1]
   simp only [UInt8.toNat_ofNat'] at h1
   rw [Nat.mod_eq_of_lt (by omega), Nat.mod_eq_of_lt (by omega)] at h1
   have : x = y := by omega
   subst this
   rw [ih b (fun z hz => ha z (List.mem_cons_of_mem _ hz)) (fun z hz => hb z (List.mem_cons_of_mem _ hz)) h.2]
theorem U8.text {P : Program} {w : World} {A : Option Addr} {n c : Nat} {xs : List Int} (h : U8 w A n c xs) {src dst e : TypeId} (hs : P.underlying src = some (.slice e)) (he : P.underlying e = some (.int .u8)) (hd : P.underlying dst = some .string) (q : Nat) :
  (convert src dst (.slice A n c)).run P (w.drewN q) = .ok (.string (strOfNums xs)) (w.drewN q) := by
 obtain ⟨h1, _, _, ⟨rfl, h2, _⟩ | ⟨a, rfl, h2⟩⟩ := h
 ·subst h2
  have e0 := List.length_eq_zero_iff.1 h1
  subst e0
  exact run_convert_bytes_nil (w.drewN q) src e hs he 0 c dst hd
 ·have hl : (loadCells a n).run P (w.drewN q) = .ok (xs.map (Value.int .u8)).toArray (w.drewN q) := by
   have := run_loadCells_list (P := P) (w.drewN q) a (xs.map (Value.int .u8)) (fun j v hj => by
    rw [List.getElem?_map, Option.map_eq_some_iff] at hj
    obtain ⟨x, hx, rfl⟩ := hj
    have hjn : j < n := by rw [← h1]; exact (List.getElem?_eq_some_iff.1 hx).1
    have hcx := h2 j hjn
    rw [hx] at hcx
    exact hcx)
   simpa [h1] using this
  rw [run_convert_bytes_string (w.drewN q) src dst e _ n c hs he hd, run_bytesToString (w.drewN q) _ n c xs hl, foldl_push_bytes]
  simp [strOfNums, ByteArray.empty, ByteArray.emptyWithCapacity]
  rfl
theorem below_drewN {B : Nat} {a w : World} (h : Below B a w) (q : Nat) : Below B a (w.drewN q) := ⟨h.os, h.tape, h.output, h.size, h.block⟩
end Go.Proofs.YtiajboiobjfcoaaGreatDoor
