/-
  What is proved here: what periodics.Start returns.
  Conditions: what the slices' cells hold.
  What is proved here: worlds that keep all blocks but some; an abstract bus (a device and a wire with a state); packets as values.
  Conditions: none.
-/
import Derived.Test.YtiajboiobjfcoaaGreatDoorQStore
import Derived.Deep.RegionHeld3
import Derived.Deep.AppendLies
import Derived.Deep.RegionLaw
namespace Go.Proofs.YtiajboiobjfcoaaGreatDoor
open Go.Proofs Go.RowKit
attribute [local go_sem] lt2 lt3 lt4 lt5
theorem info30 : (Tryz.prog.info? 23).map (fun i => (i.zero, i.size, i.bytes)) = some (some (.slice none 0 0), 1, 24) := by kernel_rfl
def B8 (w : World) (v : Value) (b : List Int) : Prop := ∃ A n c, v = .slice A n c ∧ U8 w A n c b ∧ n ≤ 65536
def B8s (w : World) (vs : List Value) (bs : List (List Int)) : Prop := vs.length = bs.length ∧ ∀ (j : Nat) v b, vs[j]? = some v → bs[j]? = some b → B8 w v b
def Sls (w : World) (A : Option Addr) (n c : Nat) (vs : List Value) : Prop :=
 vs.length = n ∧ n ≤ c ∧ ((A = none ∧ n = 0 ∧ c = 0) ∨ ∃ a : Addr, A = some a ∧ ∀ (j : Nat) v, vs[j]? = some v → w.cell? (a.add j) = some v)
theorem Sls.elem {w : World} {A : Option Addr} {n c k : Nat} {vs : List Value} {bs : List (List Int)} (h : Sls w A n c vs) (hb : B8s w vs bs) (hk : k < n) :
  ∃ a Ak nk ck b, A = some a ∧ bs[k]? = some b ∧ w.cell? (a.add k) = some (.slice Ak nk ck) ∧ U8 w Ak nk ck b ∧ nk ≤ 65536 ∧ n ≤ c := by
 obtain ⟨h1, h2, ⟨_, h3, _⟩ | ⟨a, rfl, h3⟩⟩ := h
 ·omega
 ·have hv : k < vs.length := by omega
  have hv2 : k < bs.length := by rw [← hb.1]; exact hv
  obtain ⟨Ak, nk, ck, e, hu, hm⟩ := hb.2 k vs[k] bs[k] (List.getElem?_eq_getElem hv) (List.getElem?_eq_getElem hv2)
  exact ⟨a, Ak, nk, ck, _, rfl, List.getElem?_eq_getElem hv2, by rw [← e]; exact h3 k _ (List.getElem?_eq_getElem hv), hu, hm, h2⟩
theorem Sls.below {w w' : World} {A : Option Addr} {n c : Nat} {vs : List Value} (h : Sls w A n c vs) (hb : Below w.heap.size w w') : Sls w' A n c vs := by
 obtain ⟨h1, h2, h3⟩ := h
 refine ⟨h1, h2, h3.imp id ?_⟩
 rintro ⟨a, rfl, h4⟩
 exact ⟨a, rfl, fun j v hj => (hb.cell (World.block_lt_of_cell? _ _ (h4 j v hj))).trans (h4 j v hj)⟩
theorem B8.below {w w' : World} {v : Value} {b : List Int} (h : B8 w v b) (hb : Below w.heap.size w w') : B8 w' v b := by
 obtain ⟨A, n, c, h1, h2, h3⟩ := h; exact ⟨A, n, c, h1, h2.below hb, h3⟩
theorem B8s.below {w w' : World} {vs : List Value} {bs : List (List Int)} (h : B8s w vs bs) (hb : Below w.heap.size w w') : B8s w' vs bs := ⟨h.1, fun j v b h1 h2 => (h.2 j v b h1 h2).below hb⟩
def El (w : World) (v : Value) (b : List Int) : Prop := ∃ g c, v = .slice (some ⟨g, 0, none⟩) b.length c ∧ F8 w g b.length c b
def Els (w : World) (vs : List Value) (bs : List (List Int)) : Prop := vs.length = bs.length ∧ ∀ (j : Nat) v b, vs[j]? = some v → bs[j]? = some b → El w v b
theorem El.heap {w w' : World} {v : Value} {b : List Int} (h : El w v b) (he : ∀ (g : Nat) cs, w.heap[g]? = some (.cells cs 5 (0, 0)) → w'.heap[g]? = some (.cells cs 5 (0, 0))) : El w' v b := by
 obtain ⟨g, c, h1, a1, a2, a3, cs, a4, a5⟩ := h; exact ⟨g, c, h1, a1, a2, a3, cs, he _ _ a4, a5⟩
theorem Els.heap {w w' : World} {vs : List Value} {bs : List (List Int)} (h : Els w vs bs) (he : ∀ (g : Nat) cs, w.heap[g]? = some (.cells cs 5 (0, 0)) → w'.heap[g]? = some (.cells cs 5 (0, 0))) : Els w' vs bs := ⟨h.1, fun j v b h1 h2 => (h.2 j v b h1 h2).heap he⟩
theorem keeps_below {w w' : World} (hb : Below w.heap.size w w') : ∀ (g : Nat) cs, w.heap[g]? = some (.cells cs 5 (0, 0)) → w'.heap[g]? = some (.cells cs 5 (0, 0)) :=
 fun _ _ h => heap_below h hb
theorem own_type {w : World} {B size n g : Nat} {e e' : TypeId} {v : Value} {xs : List Value} {cs : Array Value} (h : w.ownsRow B e size v n xs) (hg : w.heap[g]? = some (.cells cs e' (0, 0))) (he : e' ≠ e) : v.ownBlock ≠ some g := by
 intro hv
 rcases h.2 with ⟨rfl, _⟩ | ⟨k, cap, cur, rfl, _, hh, _⟩
 ·simp [Value.ownBlock] at hv
 ·simp [Value.ownBlock] at hv
  subst hv
  rw [hh] at hg
  injection hg with hg
  injection hg with _ h2
  exact he h2.symm
theorem Els.snoc {w : World} {vs : List Value} {bs : List (List Int)} {v : Value} {b : List Int} (h : Els w vs bs) (hv : El w v b) : Els w (vs ++ [v]) (bs ++ [b]) := by
 refine ⟨by simp [h.1], fun j u c h1 h2 => ?_⟩
 by_cases hj : j < vs.length
 ·rw [List.getElem?_append_left hj] at h1
  rw [List.getElem?_append_left (by rw [← h.1]; exact hj)] at h2
  exact h.2 j u c h1 h2
 ·rw [List.getElem?_append_right (by omega)] at h1
  rw [List.getElem?_append_right (by rw [← h.1]; omega), ← h.1] at h2
  match hq : j - vs.length with
  | 0 =>
   rw [hq] at h1 h2
   simp at h1 h2
   subst h1 h2
   exact hv
  | q + 1 => rw [hq] at h1; simp at h1
theorem own_base {w : World} {B B' e size n : Nat} {v : Value} {xs : List Value} (h : w.ownsRow B e size v n xs) (hb : B' ≤ B) : w.ownsRow B' e size v n xs := by
 refine ⟨h.1, h.2.imp id ?_⟩
 rintro ⟨g, cap, cur, rfl, hg, h3⟩
 exact ⟨g, cap, cur, rfl, by omega, h3⟩
end Go.Proofs.YtiajboiobjfcoaaGreatDoor

namespace Go.Proofs.YtiajboiobjfcoaaGreatDoor
open Go.Proofs Go.RowKit
structure Mv (S : Nat → Prop) (w : World) (S' : Nat → Prop) (w' : World) : Prop where
 os : w'.os = w.os
 tape : w'.tape = w.tape
 output : w'.output = w.output
 size : w.heap.size ≤ w'.heap.size
 block : ∀ i, i < w.heap.size → ¬ S i → w'.heap[i]? = w.heap[i]?
 sub : ∀ i, i < w.heap.size → S' i → S i
theorem Mv.refl (S : Nat → Prop) (w : World) : Mv S w S w := ⟨rfl, rfl, rfl, Nat.le_refl _, fun _ _ _ => rfl, fun _ _ h => h⟩
theorem Mv.trans {S S' S'' : Nat → Prop} {a b c : World} (h : Mv S a S' b) (k : Mv S' b S'' c) : Mv S a S'' c :=
 ⟨k.os.trans h.os, k.tape.trans h.tape, k.output.trans h.output, Nat.le_trans h.size k.size,
  fun i hi hs => (k.block i (Nat.lt_of_lt_of_le hi h.size) (fun h' => hs (h.sub i hi h'))).trans (h.block i hi hs),
  fun i hi h' => h.sub i hi (k.sub i (Nat.lt_of_lt_of_le hi h.size) h')⟩
theorem Mv.below {S S' : Nat → Prop} {a b c : World} (h : Mv S a S' b) (k : Below b.heap.size b c) : Mv S a S' c :=
 h.trans ⟨k.os, k.tape, k.output, k.size, fun i hi _ => k.block i hi, fun _ _ h => h⟩
theorem Mv.wrote {S S' : Nat → Prop} {a b c : World} {g : Nat} (h : Mv S a S' b) (k : Wrote g b c) (hg : a.heap.size ≤ g) : Mv S a S' c :=
 ⟨k.os.trans h.os, k.tape.trans h.tape, k.output.trans h.output, by rw [k.size]; exact h.size,
  fun i hi hs => (k.other i (by omega)).trans (h.block i hi hs), h.sub⟩
theorem Mv.alloc {S S' : Nat → Prop} {a b : World} (h : Mv S a S' b) (o : Obj) : Mv S a S' (b.alloc o) := h.below ((Below.refl _ _).alloc (Nat.le_refl _) o)
theorem Mv.heap {S S' : Nat → Prop} {w w' : World} {g : Nat} {o : Obj} (h : Mv S w S' w') (hg : w.heap[g]? = some o) (hs : ¬ S g) : w'.heap[g]? = some o :=
 (h.block g (Array.getElem?_eq_some_iff.1 hg).1 hs).trans hg
theorem Mv.out {S S' : Nat → Prop} {w w' : World} {g : Nat} (h : Mv S w S' w') (hg : g < w.heap.size) (hs : ¬ S g) : ¬ S' g := fun h' => hs (h.sub g hg h')
def D8 (w : World) (S : Nat → Prop) (A : Option Addr) (n c : Nat) (xs : List Int) : Prop :=
 U8 w A n c xs ∧ (n = 0 ∨ ∃ a, A = some a ∧ ¬ S a.block)
theorem D8.mv {w w' : World} {S S' : Nat → Prop} {A : Option Addr} {n c : Nat} {xs : List Int} (h : D8 w S A n c xs) (hm : Mv S w S' w') : D8 w' S' A n c xs := by
 obtain ⟨⟨h1, h2, h3, h4⟩, h5⟩ := h
 rcases Nat.eq_zero_or_pos n with h0 | h0
 ·subst h0
  exact ⟨⟨h1, h2, h3, h4.imp id fun ⟨a, e, _⟩ => ⟨a, e, fun j hj => by omega⟩⟩, .inl rfl⟩
 ·rcases h4 with ⟨_, h4, _⟩ | ⟨a, rfl, h4⟩
  ·omega
  rcases h5 with h5 | ⟨a', e, hs⟩
  ·omega
  cases e
  have hlt : a.block < w.heap.size := by
   have := World.block_lt_of_cell? _ _ (h4 0 h0)
   rwa [show (a.add 0) = a by simp [Addr.add]] at this
  refine ⟨⟨h1, h2, h3, .inr ⟨a, rfl, fun j hj => ?_⟩⟩, .inr ⟨a, rfl, hm.out hlt hs⟩⟩
  rw [World.cell?_of_block (w := w) (w' := w') (a := a.add j) ?_]
  ·exact h4 j hj
  ·have : (a.add j).block = a.block := by unfold Addr.add; split <;> rfl
   rw [this]; exact hm.block _ hlt hs
theorem D8.below {w w' : World} {S : Nat → Prop} {A : Option Addr} {n c : Nat} {xs : List Int} (h : D8 w S A n c xs) (hb : Below w.heap.size w w') : D8 w' S A n c xs := h.mv ((Mv.refl S w).below hb)
theorem D8.nil (w : World) (S : Nat → Prop) : D8 w S none 0 0 [] := ⟨⟨rfl, (fun _ hx => nomatch hx), Nat.le_refl _, .inl ⟨rfl, rfl, rfl⟩⟩, .inl rfl⟩
theorem add_block' (a : Addr) (j : Nat) : (a.add j).block = a.block := by unfold Addr.add; split <;> rfl
theorem U8.wrote {w w' : World} {A : Option Addr} {n c g : Nat} {xs : List Int} (h : U8 w A n c xs) (hw : Wrote g w w') (hf : n = 0 ∨ ∃ a, A = some a ∧ a.block ≠ g) : U8 w' A n c xs := by
 obtain ⟨h1, h2, h3, h4⟩ := h
 refine ⟨h1, h2, h3, h4.imp id ?_⟩
 rintro ⟨a, rfl, h5⟩
 refine ⟨a, rfl, fun j hj => ?_⟩
 rcases hf with h0 | ⟨a', e, hne⟩
 ·omega
 ·cases e
  exact (hw.cell (by rw [add_block']; exact hne)).trans (h5 j hj)
structure Pk where
 pid : Int
 addr : Int
 endp : Int
 data : List Int
def pkV (p : Pk) (D : Value) : Value := .agg #[.int .u8 p.pid, .int .u8 p.addr, .int .u8 p.endp, .int .u16 0, .int .u8 0, .int .u8 0, .bool false, .bool false, .int .u8 0, D]
def pk0 : Pk := ⟨0, 0, 0, []⟩
structure Bus where
 σ : Type
 B0 : Nat
 I : World → (Nat → Prop) → σ → Prop
 keep : ∀ {w w' : World} {S : Nat → Prop} {s : σ}, I w S s → (∀ i, (i < B0 ∨ S i) → w'.heap[i]? = w.heap[i]?) → w.heap.size ≤ w'.heap.size → I w' S s
 lt : ∀ {w : World} {S : Nat → Prop} {s : σ}, I w S s → ∀ i, S i → i < w.heap.size
 base : ∀ {w : World} {S : Nat → Prop} {s : σ}, I w S s → B0 ≤ w.heap.size
 wv : Value
 one : wv.cells = #[wv]
 nx : σ → Int × σ
 next : ∀ {w : World} {S : Nat → Prop} {s : σ}, I w S s → Calls Tryz.prog 82 #[wv] w fun e w' => ∃ S', e = .returned (.int .u8 (nx s).1) ∧ I w' S' (nx s).2 ∧ Mv S w S' w'
 ga : Addr
 hr : σ → Pk → Option Pk × σ
 room : σ → Prop
 Ok : Pk → Prop
 hear : ∀ {w : World} {S : Nat → Prop} {s : σ} {p : Pk} {A : Option Addr} {n c : Nat}, I w S s → room s → Ok p → D8 w S A n c p.data → Calls Tryz.prog 127 #[.pointer (some ga), pkV p (.slice A n c)] w fun e w' =>
  ∃ S' q b A' n' c', e = .returned (.tuple #[pkV q (.slice A' n' c'), .bool b]) ∧ I w' S' (hr s p).2 ∧ Mv S w S' w' ∧ D8 w' S' A' n' c' q.data ∧ (n' = 0 ∨ ∃ a, A' = some a ∧ a.block < B0) ∧ (hr s p).1 = (if b then some q else none)
theorem Bus.below {M : Bus} {w w' : World} {S : Nat → Prop} {s : M.σ} (h : M.I w S s) (hb : Below w.heap.size w w') : M.I w' S s :=
 M.keep h (fun i hi => hb.block i (hi.elim (fun h0 => Nat.lt_of_lt_of_le h0 (M.base h)) (M.lt h i))) hb.size
theorem Bus.wrote {M : Bus} {w w' : World} {S : Nat → Prop} {s : M.σ} {g : Nat} (h : M.I w S s) (hw : Wrote g w w') (h0 : M.B0 ≤ g) (hs : ¬ S g) : M.I w' S s :=
 M.keep h (fun i hi => hw.other i (by rintro rfl; rcases hi with hi | hi; omega; exact hs hi)) (Nat.le_of_eq hw.size.symm)
theorem Bus.new {M : Bus} {w : World} {S : Nat → Prop} {s : M.σ} (h : M.I w S s) {g : Nat} (hg : w.heap.size ≤ g) : ¬ S g := fun hs => by have := M.lt h g hs; omega
end Go.Proofs.YtiajboiobjfcoaaGreatDoor
