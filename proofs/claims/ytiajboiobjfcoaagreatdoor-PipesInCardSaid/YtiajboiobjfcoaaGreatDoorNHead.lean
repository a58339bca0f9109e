/-
  What is proved here: what plugboardlaw23.PipesIn does up to its second loop.
  Conditions: what its argument's cells hold.
-/
import Derived.Test.YtiajboiobjfcoaaGreatDoorNWords
import Derived.Test.YtiajboiobjfcoaaGreatDoorOAns
import Derived.Deep.CutRange
import Derived.Deep.CutBlock
import Derived.Deep.DeepCutAuto
namespace Go.Proofs.YtiajboiobjfcoaaGreatDoor
open Go.Proofs Go.RowKit
attribute [local go_sem] lt2 lt3 lt4 lt5
attribute [-go_sem] Builtin.append_
def cutVN : Value → Value
 | .slice A n c => .slice A (min n 8) c
 | v => v
def cutsN (ls : List (List Int)) : List (List Int) := ls.map (List.take 8)
theorem cutsN_le (ls : List (List Int)) : ∀ b ∈ cutsN ls, b.length ≤ 8 := by
 intro b hb
 obtain ⟨x, _, rfl⟩ := List.mem_map.1 hb
 simp; omega
def endsN (os : List (List Int)) (k : Nat) : List Int := (List.range (k + 1)).map fun j => (((os.take j).flatten).length : Int)
theorem endsN_at (os : List (List Int)) {j k : Nat} (h : j ≤ k) : (endsN os k)[j]? = some (((os.take j).flatten).length : Int) := by
 unfold endsN
 rw [List.getElem?_map, List.getElem?_range (by omega)]
 rfl
theorem endsN_len (os : List (List Int)) (k : Nat) : (endsN os k).length = k + 1 := by simp [endsN]
theorem endsN_succ (os : List (List Int)) (k : Nat) : endsN os (k + 1) = endsN os k ++ [(((os.take (k + 1)).flatten).length : Int)] := by
 unfold endsN
 rw [List.range_succ, List.map_append]
 rfl
theorem flat8 (os : List (List Int)) (h : ∀ b ∈ os, b.length ≤ 8) (k : Nat) : ((os.take k).flatten).length ≤ 8 * k := by
 induction k with
 | zero => simp
 | succ k ih =>
  rw [List.take_add_one, List.flatten_append, List.length_append]
  cases hb : os[k]? with
  | none => simp only [Option.toList_none, List.flatten_nil, List.length_nil]; omega
  | some b => have := h b (List.mem_of_getElem? hb); simp only [Option.toList_some, List.flatten_cons, List.flatten_nil, List.append_nil]; omega
theorem own_gr {w w' : World} {B size n : Nat} {e : TypeId} {v : Value} {xs : List Value} {ob : Option Nat} (h : w.ownsRow B e size v n xs) (hg : w.grownBy w' ob) (hne : ∀ i, v.ownBlock = some i → ob ≠ some i) : w'.ownsRow B e size v n xs := by
 refine ⟨h.1, h.2.imp id ?_⟩
 rintro ⟨k, cap, cur, rfl, hg', hh, h3⟩
 exact ⟨k, cap, cur, rfl, hg', heap_grown hh hg (hne k rfl), h3⟩
theorem u8_cutN {w : World} {A : Option Addr} {n c : Nat} {xs : List Int} (h : U8 w A n c xs) : U8 w A (min n 8) c (xs.take 8) := by
 obtain ⟨h1, h2, h3, h4⟩ := h
 refine ⟨by simp [h1]; omega, fun x hx => h2 x (List.mem_of_mem_take hx), by omega, ?_⟩
 rcases h4 with ⟨rfl, rfl, rfl⟩ | ⟨a, rfl, h5⟩
 ·exact .inl ⟨rfl, rfl, rfl⟩
 ·refine .inr ⟨a, rfl, fun j hj => ?_⟩
  rw [h5 j (by omega), List.getElem?_take_of_lt (by omega)]
theorem sls_ownN {w : World} {B : Nat} {t : TypeId} {A : Option Addr} {n c : Nat} {us : List Value} (h : w.ownsRow B t 1 (.slice A n c) n us) : Sls w A n c us := by
 have hul : us.length = n := by have := h.1; omega
 rcases id h.2 with ⟨e, h0⟩ | ⟨g, cap, cur, e, _, hh, hc, _⟩
 ·injection e with e1 e2 e3
  exact ⟨hul, by omega, .inl ⟨e1, e2, e3⟩⟩
 ·injection e with e1 e2 e3
  subst e1 e3
  refine ⟨hul, hc, .inr ⟨_, rfl, fun j v hj => ?_⟩⟩
  have hjl := (List.getElem?_eq_some_iff.1 hj).1
  rw [show (⟨g, 0, none⟩ : Addr).add j = ⟨g, j, none⟩ by unfold Addr.add; split <;> simp_all]
  exact (h.cellAt j (by omega)).trans (by first | exact hj | rw [← hj])
def tC (oA : Option Addr) (on oc : Nat) (lA : Option Addr) (ln lc : Nat) (sA : Option Addr) (sn sc : Nat) (fA : Option Addr) (fn fc : Nat) (aA : Option Addr) (an ac : Nat) : Array Value :=
 #[.slice oA on oc, .slice lA ln lc, .slice sA sn sc, .slice fA fn fc, .slice aA an ac]
def gC (aA : Option Addr) (an ac : Nat) (T : Option Addr) (k tc : Nat) : Array Value := #[.int .u8 2, .bool true, .bool false, .bool false, .slice aA an ac, .int .i64 0, .slice T k tc, .int .i64 0, .bool false, .bool false, .slice none 0 0, .int .i64 0]
structure Loop1 (w : World) (xC : Array Value) (aA : Option Addr) (an ac : Nat) (vs : List Value) (os : List (List Int)) (k : Nat) (T : Option Addr) (tc : Nat) (av : Value) (E : Option Addr) (ec : Nat) (wr : World) : Prop where
 bel : Below w.heap.size w wr
 x : wr.heap[w.heap.size]? = some (.cells xC 69 (0, 0))
 g : wr.heap[w.heap.size + 1]? = some (.cells (gC aA an ac T k tc) 34 (0, 0))
 own : wr.ownsRow (w.heap.size + 1 + 1) 23 1 (.slice T k tc) k ((vs.take k).map cutVN)
 al : wr.ownsRow (w.heap.size + 1 + 1) 5 1 av (((os.take k).flatten)).length (((os.take k).flatten).map (Value.int .u8))
 en : wr.ownsRow (w.heap.size + 1 + 1) 3 1 (.slice E (k + 1) ec) (k + 1) ((endsN os k).map (Value.int .i64))
 d1 : ∀ i, (Value.slice T k tc).ownBlock = some i → av.ownBlock ≠ some i ∧ (Value.slice E (k + 1) ec).ownBlock ≠ some i
 d2 : ∀ i, av.ownBlock = some i → (Value.slice E (k + 1) ec).ownBlock ≠ some i
def MidN (w : World) (xC : Array Value) (aA : Option Addr) (an ac : Nat) (vs : List Value) (os : List (List Int)) (on : Nat) (u4 u5 : Value) (wr : World) : Prop :=
 ∃ T tc E ec, u5 = .slice E (on + 1) ec ∧ Loop1 w xC aA an ac vs os on T tc u4 E ec wr
end Go.Proofs.YtiajboiobjfcoaaGreatDoor
