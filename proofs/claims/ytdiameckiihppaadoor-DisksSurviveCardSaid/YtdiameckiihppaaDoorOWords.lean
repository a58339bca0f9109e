/-
  What is proved here: plain words for lists of bytes: slices that read as lists, the order of lists, prefixes.
  Conditions: none.
-/
import Derived.Test.YtdiameckiihppaaDoorChecked
import Derived.Lib.Strings
import Derived.Lib.Slices
import Derived.Lib.Walk
import Derived.Lib.Hide
import Derived.Below
import Derived.Deep.RegionHeld
import Derived.Laws.BytesArg
import Derived.Deep.Draws
namespace Go.Proofs.YtdiameckiihppaaDoor
open Go.Proofs Go.RowKit

/-- a slice of bytes that reads as a list -/
def U8 (w : World) (A : Option Addr) (n c : Nat) (xs : List Int) : Prop :=
  xs.length = n ∧ (∀ x ∈ xs, 0 ≤ x ∧ x ≤ 255) ∧ n ≤ c ∧ ((A = none ∧ n = 0 ∧ c = 0) ∨ ∃ a : Addr, A = some a ∧ ∀ j, j < n → w.cell? (a.add j) = some (.int .u8 (xs[j]?.getD 0)))

theorem U8.cell {w : World} {A : Option Addr} {n c : Nat} {xs : List Int} (h : U8 w A n c xs) {j : Nat} (hj : j < n) :
    ∃ a x, A = some a ∧ xs[j]? = some x ∧ 0 ≤ x ∧ x ≤ 255 ∧ w.cell? (a.add j) = some (.int .u8 x) := by
  obtain ⟨h1, h2, _, ⟨_, h3, _⟩ | ⟨a, rfl, h3⟩⟩ := h
  · omega
  · have hl : j < xs.length := by omega
    have e := h3 j hj
    rw [List.getElem?_eq_getElem hl] at e
    exact ⟨a, xs[j], rfl, List.getElem?_eq_getElem hl, (h2 _ (List.getElem_mem hl)).1, (h2 _ (List.getElem_mem hl)).2, e⟩

theorem U8.keep {w w' : World} {A : Option Addr} {n c : Nat} {xs : List Int} (h : U8 w A n c xs) (hk : ∀ p u, w.cell? p = some u → w'.cell? p = some u) : U8 w' A n c xs := by
  obtain ⟨h1, h2, hc, h3⟩ := h
  refine ⟨h1, h2, hc, h3.imp id ?_⟩
  rintro ⟨a, rfl, h4⟩
  exact ⟨a, rfl, fun j hj => hk _ _ (h4 j hj)⟩

theorem U8.below {w w' : World} {A : Option Addr} {n c : Nat} {xs : List Int} (h : U8 w A n c xs) (hb : Below w.heap.size w w') : U8 w' A n c xs :=
  h.keep fun _ _ hp => (hb.cell (World.block_lt_of_cell? _ _ hp)).trans hp
theorem U8.drewN {w : World} {A : Option Addr} {n c : Nat} {xs : List Int} (h : U8 w A n c xs) (q : Nat) : U8 (w.drewN q) A n c xs := h
theorem U8.alloc {w : World} {A : Option Addr} {n c : Nat} {xs : List Int} (h : U8 w A n c xs) (o : Obj) : U8 (w.alloc o) A n c xs :=
  h.keep fun _ _ hp => (World.cell?_alloc_lt _ _ _ (World.block_lt_of_cell? _ _ hp)).trans hp

/-- the first elements -/
theorem U8.take {w : World} {A : Option Addr} {n c : Nat} {xs : List Int} (h : U8 w A n c xs) {k : Nat} (hk : k ≤ n) : U8 w A k c (xs.take k) := by
  obtain ⟨h1, h2, hc, h3⟩ := h
  refine ⟨by rw [List.length_take]; omega, fun x hx => h2 x (List.mem_of_mem_take hx), by omega, ?_⟩
  rcases h3 with ⟨rfl, h3, h4⟩ | ⟨a, rfl, h3⟩
  · exact .inl ⟨rfl, by omega, h4⟩
  · exact .inr ⟨a, rfl, fun j hj => by rw [List.getElem?_take, if_pos hj]; exact h3 j (by omega)⟩

/-- the order of lists -/
def cmpL : List Int → List Int → Int
  | [], [] => 0
  | [], _ :: _ => -1
  | _ :: _, [] => 1
  | x :: xs, y :: ys => if x < y then -1 else if y < x then 1 else cmpL xs ys

theorem cmpL_self : ∀ l : List Int, cmpL l l = 0
  | [] => rfl
  | x :: xs => by rw [cmpL, if_neg (by omega), if_neg (by omega), cmpL_self xs]

theorem drop_cons {l : List Int} {k : Nat} {x : Int} (h : l[k]? = some x) : l.drop k = x :: l.drop (k + 1) := by
  obtain ⟨hk, rfl⟩ := List.getElem?_eq_some_iff.1 h
  exact List.drop_eq_getElem_cons hk
theorem drop_nil {l : List Int} {k : Nat} (h : l.length ≤ k) : l.drop k = [] := List.drop_eq_nil_of_le h

/-- whether a list begins with another one, and is longer -/
def undB (c a : List Int) : Bool := decide (a.length < c.length) && decide (c.take a.length = a)

theorem cmpL_under : ∀ (a c : List Int), undB c a = true → cmpL a c = -1
  | [], [], h => by simp [undB] at h
  | [], _ :: _, _ => rfl
  | _ :: _, [], h => by simp [undB] at h
  | x :: a, y :: c, h => by
    simp only [undB, List.length_cons, List.take_succ_cons, Bool.and_eq_true, decide_eq_true_eq, List.cons.injEq] at h
    obtain ⟨h1, rfl, h2⟩ := h
    rw [cmpL, if_neg (by omega), if_neg (by omega)]
    refine cmpL_under a c ?_
    simp only [undB, Bool.and_eq_true, decide_eq_true_eq]
    exact ⟨by omega, h2⟩

theorem undB_self (a : List Int) : undB a a = false := by simp [undB]
theorem undB_take (c : List Int) (n : Nat) (h : n < c.length) : undB c (c.take n) = true := by
  simp only [undB, Bool.and_eq_true, decide_eq_true_eq, List.length_take]
  rw [Nat.min_eq_left (by omega)]
  exact ⟨h, rfl⟩

/-- texts out of bytes are equal exactly if the bytes are -/
theorem str_inj : ∀ (a b : List Int), (∀ x ∈ a, 0 ≤ x ∧ x ≤ 255) → (∀ x ∈ b, 0 ≤ x ∧ x ≤ 255) → (strOfNums a).toList = (strOfNums b).toList → a = b := by
  intro a b ha hb h
  have e : ∀ l : List Int, (strOfNums l).toList = l.map fun n => UInt8.ofNat n.toNat := by
    intro l
    rw [ByteArray.toList_eq]
    simp [strOfNums]
  rw [e, e] at h
  clear e
  induction a generalizing b with
  | nil => cases b with
    | nil => rfl
    | cons y b => cases h
  | cons x a ih => cases b with
    | nil => cases h
    | cons y b =>
      simp only [List.map_cons, List.cons.injEq] at h
      have hx := ha x (List.mem_cons_self ..)
      have hy := hb y (List.mem_cons_self ..)
      have h1 : (UInt8.ofNat x.toNat).toNat = (UInt8.ofNat y.toNat).toNat := by rw [h.1]
      simp only [UInt8.toNat_ofNat'] at h1
      rw [Nat.mod_eq_of_lt (by omega), Nat.mod_eq_of_lt (by omega)] at h1
      have : x = y := by omega
      subst this
      rw [ih b (fun z hz => ha z (List.mem_cons_of_mem _ hz)) (fun z hz => hb z (List.mem_cons_of_mem _ hz)) h.2]

/-- a slice of bytes as a text -/
theorem U8.text {P : Program} {w : World} {A : Option Addr} {n c : Nat} {xs : List Int} (h : U8 w A n c xs) {src dst e : TypeId} (hs : P.underlying src = some (.slice e)) (he : P.underlying e = some (.int .u8)) (hd : P.underlying dst = some .string) (q : Nat) :
    (convert src dst (.slice A n c)).run P (w.drewN q) = .ok (.string (strOfNums xs)) (w.drewN q) := by
  obtain ⟨h1, _, _, ⟨rfl, h2, _⟩ | ⟨a, rfl, h2⟩⟩ := h
  · subst h2
    have e0 := List.length_eq_zero_iff.1 h1
    subst e0
    exact run_convert_bytes_nil (w.drewN q) src e hs he 0 c dst hd
  · have hl : (loadCells a n).run P (w.drewN q) = .ok (xs.map (Value.int .u8)).toArray (w.drewN q) := by
      have := run_loadCells_list (P := P) (w.drewN q) a (xs.map (Value.int .u8)) (fun j v hj => by
        rw [List.getElem?_map, Option.map_eq_some_iff] at hj
        obtain ⟨x, hx, rfl⟩ := hj
        have hjn : j < n := by rw [← h1]; exact (List.getElem?_eq_some_iff.1 hx).1
        have hcx := h2 j hjn
        rw [hx] at hcx
        exact hcx)
      simpa [h1] using this
    rw [run_convert_bytes_string (w.drewN q) src dst e _ n c hs he hd, run_bytesToString (w.drewN q) _ n c xs hl, foldl_push_bytes]
    simp [strOfNums, ByteArray.empty, ByteArray.emptyWithCapacity]
    rfl

theorem below_drewN {B : Nat} {a w : World} (h : Below B a w) (q : Nat) : Below B a (w.drewN q) := ⟨h.os, h.tape, h.output, h.size, h.block⟩

theorem add_zero_ (a : Addr) : a.add 0 = a := by unfold Addr.add; rw [if_pos rfl]

end Go.Proofs.YtdiameckiihppaaDoor
