/-
  What is proved here: what the law's device does when it hears a packet.
  Conditions: what its block and its lists' cells hold.
  What is proved here: what the law's device does with a data packet.
  Conditions: what its block and its lists' cells hold.
  What is proved here: what the law's device does when it hears a packet, where it is isochronous.
  Conditions: what its block and its lists' cells hold.
-/
import Derived.Test.YtiajboiobjfcoaaGreatDoorISend
namespace Go.Proofs.YtiajboiobjfcoaaGreatDoor
open Go.Proofs Go.RowKit
attribute [local go_sem] lt2 lt3 lt4 lt5
abbrev Fx (G B0 : Nat) (i : Nat) : Prop := i < B0 ∧ i ≠ G
theorem U8.far {w w' : World} {G B0 : Nat} {A : Option Addr} {n c : Nat} {xs : List Int} (h : U8 w A n c xs) (hf : n = 0 ∨ ∃ a, A = some a ∧ Fx G B0 a.block) (hk : ∀ i, Fx G B0 i → w'.heap[i]? = w.heap[i]?) : U8 w' A n c xs := by
 obtain ⟨h1, h2, h3, h4⟩ := h
 refine ⟨h1, h2, h3, h4.imp id ?_⟩
 rintro ⟨a, rfl, h5⟩
 refine ⟨a, rfl, fun j hj => ?_⟩
 rcases hf with h0 | ⟨a', e, hl⟩
 ·omega
 ·cases e
  exact (World.cell?_of_block (w := w) (w' := w') (a := a.add j) (by rw [add_block']; exact hk _ hl)).trans (h5 j hj)
theorem Sls.far {w w' : World} {G B0 : Nat} {A : Option Addr} {n c : Nat} {vs : List Value} (h : Sls w A n c vs) (hf : n = 0 ∨ ∃ a, A = some a ∧ Fx G B0 a.block) (hk : ∀ i, Fx G B0 i → w'.heap[i]? = w.heap[i]?) : Sls w' A n c vs := by
 obtain ⟨h1, h2, h3⟩ := h
 refine ⟨h1, h2, h3.imp id ?_⟩
 rintro ⟨a, rfl, h4⟩
 refine ⟨a, rfl, fun j v hj => ?_⟩
 rcases hf with h0 | ⟨a', e, hl⟩
 ·have := (List.getElem?_eq_some_iff.1 hj).1; omega
 ·cases e
  exact (World.cell?_of_block (w := w) (w' := w') (a := a.add j) (by rw [add_block']; exact hk _ hl)).trans (h4 j v hj)
structure GrK where
 endp : Int
 inn : Bool
 iso : Bool
 ans : List Int
 aA : Option Addr
 an : Nat
 ac : Nat
 offs : List (List Int)
 vs : List Value
 oA : Option Addr
 on : Nat
 oc : Nat
structure GrS where
 tg : Bool
 at_ : Nat
 nx : Nat
 wt : Bool
 tk : Bool
 taken : List Int
 many : Nat
def grCells (K : GrK) (tv : Value) (s : GrS) : Array Value :=
 #[.int .u8 K.endp, .bool K.inn, .bool K.iso, .bool s.tg, .slice K.aA K.an K.ac, .int .i64 (s.at_ : Int), .slice K.oA K.on K.oc, .int .i64 (s.nx : Int), .bool s.wt, .bool s.tk, tv, .int .i64 (s.many : Int)]
def GrL (K : GrK) (G B0 : Nat) (w : World) : Prop :=
 U8 w K.aA K.an K.ac K.ans ∧ Sls w K.oA K.on K.oc K.vs ∧ B8s w K.vs K.offs ∧ (K.an = 0 ∨ ∃ a, K.aA = some a ∧ Fx G B0 a.block) ∧ (K.on = 0 ∨ ∃ a, K.oA = some a ∧ Fx G B0 a.block) ∧
  (∀ (j : Nat) A n c, K.vs[j]? = some (.slice A n c) → n = 0 ∨ ∃ a, A = some a ∧ Fx G B0 a.block)
structure GrAt (K : GrK) (G B0 B1 : Nat) (w : World) (tv : Value) (s : GrS) : Prop where
 box : w.heap[G]? = some (.cells (grCells K tv s) 34 (0, 0))
 own : w.ownsRow B1 5 1 tv s.taken.length (s.taken.map (Value.int .u8))
 rng : ∀ x ∈ s.taken, 0 ≤ x ∧ x ≤ 255
 lists : GrL K G B0 w
theorem GrL.far {K : GrK} {G B0 : Nat} {w w' : World} (h : GrL K G B0 w) (hk : ∀ i, Fx G B0 i → w'.heap[i]? = w.heap[i]?) : GrL K G B0 w' := by
 obtain ⟨h1, h2, h3, h4, h5, h6⟩ := h
 refine ⟨h1.far h4 hk, h2.far h5 hk, ⟨h3.1, fun j v b hj hb => ?_⟩, h4, h5, h6⟩
 obtain ⟨A, n, c, e, hu, hn⟩ := h3.2 j v b hj hb
 exact ⟨A, n, c, e, hu.far (h6 j A n c (by rw [hj, e])) hk, hn⟩
def GrS.room (s : GrS) : Prop := s.at_ ≤ 1000000000 ∧ s.nx ≤ 1000000000 ∧ s.many ≤ 1000000000 ∧ s.taken.length ≤ 1000000
theorem wrap1 {n : Nat} (h : n ≤ 1000000000) : IntKind.i64.wrap ((n : Int) + 1) = (n : Int) + 1 := IntWalk.i64_in _ (by omega)
theorem Mx.wr1 {X S S' : Nat → Prop} {a b c : World} {g : Nat} (h : Mx X S a S' b) (k : Wrote g b c) (hg : a.heap.size ≤ g) : Mx X S a S' c :=
 ⟨k.os.trans h.os, k.tape.trans h.tape, k.output.trans h.output, by rw [k.size]; exact h.size, fun i hi hs hx => (k.other i (by omega)).trans (h.block i hi hs hx), h.sub⟩
theorem own_wg {w w' : World} {B size n g : Nat} {e : TypeId} {v : Value} {xs : List Value} (h : w.ownsRow B e size v n xs) (hW : Wrote g w w') (hne : ∀ i, v.ownBlock = some i → i ≠ g) : w'.ownsRow B e size v n xs := by
 refine ⟨h.1, h.2.imp id ?_⟩
 rintro ⟨k, cap, cur, rfl, hg, hh, h3⟩
 exact ⟨k, cap, cur, rfl, hg, (hW.other k (hne k rfl)).trans hh, h3⟩
abbrev no : Nat → Prop := fun _ => False
end Go.Proofs.YtiajboiobjfcoaaGreatDoor

namespace Go.Proofs.YtiajboiobjfcoaaGreatDoor
open Go.Proofs Go.RowKit
attribute [local go_sem] lt2 lt3 lt4 lt5
theorem step_append_run {P : Program} {ops : Array Oper} {o : Oper} {a : Act} {K : Act → World → Prop} {Q : Exit → Act → World → Prop} {E : Prop} {w : World} (hgd : o.guard = none) (s x : Operand) (t : TypeId)
  (ho : o.op = Op.call { callee := Callee.builtin Builtin.append, args := #[s, x], argTypes := #[t, t] })
  (sv xv v' : Value) (w' : World) (hs : a.eval s = sv) (hx : a.eval x = xv) (hrun : (Builtin.append_ #[t, t] o.type #[sv, xv]).run P w = .ok v' w') (h : K (a.put o.dst v') w') :
  if Region.wanted o (yielded ops a.tmps) = true then Oper.wp P o a w K Q else E := by
 have hw : Region.wanted o (yielded ops a.tmps) = true := by simp [Region.wanted, hgd]
 rw [if_pos hw]
 unfold Oper.wp
 simp [execOp, ho, resolve, invoke, builtin, hs, hx, hrun, Result.andThen]
 exact h
theorem nil8 (w : World) (A : Option Addr) (n k : Nat) (hk : n ≤ k) : (Builtin.append_ #[23, 23] 23 #[.slice A n k, .slice none 0 0]).run Tryz.prog w = .ok (.slice A n k) w := by
 obtain ⟨i0, hi, hz0, hz1, hz2⟩ := info_parts info5
 have hul : Tryz.prog.underlying 23 = some (.slice 5) := Tryz.underlying23
 cases A <;> simp [Builtin.append_, run_underlying hul, sizeOf, typeInfo, hi, Builtin.lenOf, run_firstCells_none, storeCells, Sem.run_bind, Result.andThen, hk]
theorem app8 {w : World} {B1 : Nat} {tv : Value} {ys xs : List Int} {A : Option Addr} {n c : Nat} (hown : w.ownsRow B1 5 1 tv ys.length (ys.map (Value.int .u8))) (hu : U8 w A n c xs) (hn : n ≤ 1024) (hy : ys.length ≤ 1000000) (hB : B1 ≤ w.heap.size) :
  ∃ tv' w', (Builtin.append_ #[23, 23] 23 #[tv, .slice A n c]).run Tryz.prog w = .ok tv' w' ∧ w'.ownsRow B1 5 1 tv' (ys ++ xs).length ((ys ++ xs).map (Value.int .u8)) ∧ w.grownBy w' tv.ownBlock ∧ (∀ i, tv'.ownBlock = some i → tv.ownBlock = some i ∨ w.heap.size ≤ i) := by
 have hl := hu.1
 obtain ⟨i0, hi, hz0, hz1, hz2⟩ := info_parts info5
 rcases hu.2.2.2 with ⟨rfl, rfl, rfl⟩ | ⟨a, rfl, hc⟩
 ·have e0 := List.length_eq_zero_iff.1 hl
  subst e0
  obtain ⟨A, m, k, rfl, hk⟩ : ∃ A m k, tv = .slice A m k ∧ m ≤ k := by
   rcases hown.2 with ⟨rfl, _⟩ | ⟨g, cap, cur, rfl, _, _, hc, _⟩
   ·exact ⟨none, 0, 0, rfl, Nat.le_refl _⟩
   ·exact ⟨_, _, cap, rfl, hc⟩
  exact ⟨_, w, nil8 w A m k hk, by simpa using hown, ⟨rfl, rfl, rfl, Nat.le_refl _, fun _ _ _ => rfl⟩, fun i h => .inl h⟩
 ·obtain ⟨tv', w', hr, ho, hg, _, hat⟩ := run_append_own_at (P := Tryz.prog) w B1 23 23 5 i0 (.int .u8 0) 1 1 Tryz.underlying23 hi hz0 hz1 hz2 rfl (by decide) tv _ _ hown a n c (xs.map (Value.int .u8)) (by simp [hl]) (fun j u hj => by
   rw [List.getElem?_map, Option.map_eq_some_iff] at hj
   obtain ⟨x, hx, rfl⟩ := hj
   have hjn : j < n := by rw [← hl]; exact (List.getElem?_eq_some_iff.1 hx).1
   have := hc j hjn
   rw [hx] at this
   exact this) (fun u hu' => by obtain ⟨x, _, rfl⟩ := List.mem_map.1 hu'; rfl) (by unfold maxLen; omega) (by omega) hB
  refine ⟨tv', w', hr, by rw [List.length_append, hl, List.map_append]; exact ho, hg, fun i h => ?_⟩
  rcases hat with hat | hat
  ·exact .inl (by rw [← hat]; exact h)
  ·rw [hat] at h; exact .inr (by have := Option.some.inj h; omega)
end Go.Proofs.YtiajboiobjfcoaaGreatDoor

namespace Go.Proofs.YtiajboiobjfcoaaGreatDoor
open Go.Proofs Go.RowKit
attribute [local go_sem] lt2 lt3 lt4 lt5
def GrK.mine (K : GrK) (p : Pk) : Bool := decide (p.addr = 5) && decide (p.endp = K.endp)
def HearEnd (K : GrK) (G B0 B1 : Nat) (tv : Value) (r : Option Pk × GrS) (w : World) (e : Ending) (w' : World) : Prop :=
 ∃ q b A' n' c' tv', e = .returned (.tuple #[pkV q (.slice A' n' c'), .bool b]) ∧ GrAt K G B0 B1 w' tv' r.2 ∧ Mx (fun i => i = G ∨ tv.ownBlock = some i) no w no w' ∧ U8 w' A' n' c' q.data ∧ (n' = 0 ∨ ∃ a, A' = some a ∧ Fx G B0 a.block) ∧ r.1 = (if b then some q else none) ∧
  (∀ i, tv'.ownBlock = some i → tv.ownBlock = some i ∨ w.heap.size ≤ i)
theorem GrAt.wr {K : GrK} {G B0 B1 g : Nat} {w w' : World} {tv : Value} {s : GrS} (h : GrAt K G B0 B1 w tv s) (hW : Wrote g w w') (hg : g ≠ G) (h0 : B0 ≤ g) (ho : ∀ i, tv.ownBlock = some i → i ≠ g) : GrAt K G B0 B1 w' tv s :=
 ⟨(hW.other G (fun e => hg e.symm)).trans h.box, own_wg h.own hW ho, h.rng, h.lists.far (fun i hi => hW.other i (by have := hi.1; omega))⟩
theorem Mx.step {X Y S : Nat → Prop} {a b c : World} (h : Mx X S a S b) (k : Mx Y S b S c) (hx : ∀ i, X i → Y i) : Mx Y S a S c :=
 ⟨k.os.trans h.os, k.tape.trans h.tape, k.output.trans h.output, Nat.le_trans h.size k.size, fun i hi hs hy => (k.block i (Nat.lt_of_lt_of_le hi h.size) hs hy).trans (h.block i hi hs (fun h' => hy (hx i h'))), fun _ _ h => h⟩
theorem Mx.wider {X Y S : Nat → Prop} {a b : World} (h : Mx X S a S b) (hx : ∀ i, X i → Y i) : Mx Y S a S b :=
 ⟨h.os, h.tape, h.output, h.size, fun i hi hs hy => h.block i hi hs (fun h' => hy (hx i h')), h.sub⟩
end Go.Proofs.YtiajboiobjfcoaaGreatDoor
