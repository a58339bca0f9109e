/-
  What is proved here: what the law's device does when it hears a packet.
  Conditions: what its block and its lists' cells hold.
  What is proved here: what the law's device does with a data packet.
  Conditions: what its block and its lists' cells hold.
  What is proved here: what the law's device does when it hears a packet, where it is isochronous.
  Conditions: what its block and its lists' cells hold.
  What is proved here: the next answer of the law's device.
  Conditions: what its block and its lists' cells hold.
-/
import Derived.Test.YtiajboiobjfcoaaGreatDoorISend
namespace Go.Proofs.YtiajboiobjfcoaaGreatDoor
open Go.Proofs Go.RowKit
attribute [local go_sem] lt2 lt3 lt4 lt5
abbrev Fx (G B0 : Nat) (i : Nat) : Prop := i < B0 ∧ i ≠ G
theorem U8.far {w w' : World} {G B0 : Nat} {A : Option Addr} {n c : Nat} {xs : List Int} (h : U8 w A n c xs) (hf : n = 0 ∨ ∃ a, A = some a ∧ Fx G B0 a.block) (hk : ∀ i, Fx G B0 i → w'.heap[i]? = w.heap[i]?) : U8 w' A n c xs := by
 obtain ⟨h1, h2, h3, h4⟩ := h
 refine ⟨h1, h2, h3, h4.imp id ?_⟩
 rintro ⟨a, rfl, h5⟩
 refine ⟨a, rfl, fun j hj => ?_⟩
 rcases hf with h0 | ⟨a', e, hl⟩
 ·omega
 ·cases e
  exact (World.cell?_of_block (w := w) (w' := w') (a := a.add j) (by rw [add_block']; exact hk _ hl)).trans (h5 j hj)
theorem Sls.far {w w' : World} {G B0 : Nat} {A : Option Addr} {n c : Nat} {vs : List Value} (h : Sls w A n c vs) (hf : n = 0 ∨ ∃ a, A = some a ∧ Fx G B0 a.block) (hk : ∀ i, Fx G B0 i → w'.heap[i]? = w.heap[i]?) : Sls w' A n c vs := by
 obtain ⟨h1, h2, h3⟩ := h
 refine ⟨h1, h2, h3.imp id ?_⟩
 rintro ⟨a, rfl, h4⟩
 refine ⟨a, rfl, fun j v hj => ?_⟩
 rcases hf with h0 | ⟨a', e, hl⟩
 ·have := (List.getElem?_eq_some_iff.1 hj).1; omega
 ·cases e
  exact (World.cell?_of_block (w := w) (w' := w') (a := a.add j) (by rw [add_block']; exact hk _ hl)).trans (h4 j v hj)
structure GrK where
 endp : Int
 inn : Bool
 iso : Bool
 ans : List Int
 aA : Option Addr
 an : Nat
 ac : Nat
 offs : List (List Int)
 vs : List Value
 oA : Option Addr
 on : Nat
 oc : Nat
structure GrS where
 tg : Bool
 at_ : Nat
 nx : Nat
 wt : Bool
 tk : Bool
 taken : List Int
 many : Nat
def grCells (K : GrK) (tv : Value) (s : GrS) : Array Value :=
 #[.int .u8 K.endp, .bool K.inn, .bool K.iso, .bool s.tg, .slice K.aA K.an K.ac, .int .i64 (s.at_ : Int), .slice K.oA K.on K.oc, .int .i64 (s.nx : Int), .bool s.wt, .bool s.tk, tv, .int .i64 (s.many : Int)]
def GrL (K : GrK) (G B0 : Nat) (w : World) : Prop :=
 U8 w K.aA K.an K.ac K.ans ∧ Sls w K.oA K.on K.oc K.vs ∧ B8s w K.vs K.offs ∧ (K.an = 0 ∨ ∃ a, K.aA = some a ∧ Fx G B0 a.block) ∧ (K.on = 0 ∨ ∃ a, K.oA = some a ∧ Fx G B0 a.block) ∧
  (∀ (j : Nat) A n c, K.vs[j]? = some (.slice A n c) → n = 0 ∨ ∃ a, A = some a ∧ Fx G B0 a.block)
structure GrAt (K : GrK) (G B0 B1 : Nat) (w : World) (tv : Value) (s : GrS) : Prop where
 box : w.heap[G]? = some (.cells (grCells K tv s) 34 (0, 0))
 own : w.ownsRow B1 5 1 tv s.taken.length (s.taken.map (Value.int .u8))
 rng : ∀ x ∈ s.taken, 0 ≤ x ∧ x ≤ 255
 lists : GrL K G B0 w
theorem GrL.far {K : GrK} {G B0 : Nat} {w w' : World} (h : GrL K G B0 w) (hk : ∀ i, Fx G B0 i → w'.heap[i]? = w.heap[i]?) : GrL K G B0 w' := by
 obtain ⟨h1, h2, h3, h4, h5, h6⟩ := h
 refine ⟨h1.far h4 hk, h2.far h5 hk, ⟨h3.1, fun j v b hj hb => ?_⟩, h4, h5, h6⟩
 obtain ⟨A, n, c, e, hu, hn⟩ := h3.2 j v b hj hb
 exact ⟨A, n, c, e, hu.far (h6 j A n c (by rw [hj, e])) hk, hn⟩
def GrS.room (s : GrS) : Prop := s.at_ ≤ 1000000000 ∧ s.nx ≤ 1000000000 ∧ s.many ≤ 1000000000 ∧ s.taken.length ≤ 1000000
theorem wrap1 {n : Nat} (h : n ≤ 1000000000) : IntKind.i64.wrap ((n : Int) + 1) = (n : Int) + 1 := IntWalk.i64_in _ (by omega)
theorem Mx.wr1 {X S S' : Nat → Prop} {a b c : World} {g : Nat} (h : Mx X S a S' b) (k : Wrote g b c) (hg : a.heap.size ≤ g) : Mx X S a S' c :=
 ⟨k.os.trans h.os, k.tape.trans h.tape, k.output.trans h.output, by rw [k.size]; exact h.size, fun i hi hs hx => (k.other i (by omega)).trans (h.block i hi hs hx), h.sub⟩
theorem Wrote.undrew {g : Nat} {w w' : World} (h : Wrote g w.drew w') : Wrote g w w' := ⟨h.os, h.tape, h.output, h.size, h.other⟩
theorem own_wg {w w' : World} {B size n g : Nat} {e : TypeId} {v : Value} {xs : List Value} (h : w.ownsRow B e size v n xs) (hW : Wrote g w w') (hne : ∀ i, v.ownBlock = some i → i ≠ g) : w'.ownsRow B e size v n xs := by
 refine ⟨h.1, h.2.imp id ?_⟩
 rintro ⟨k, cap, cur, rfl, hg, hh, h3⟩
 exact ⟨k, cap, cur, rfl, hg, (hW.other k (hne k rfl)).trans hh, h3⟩
theorem put10g {w : World} {g : Nat} {t : TypeId} {z0 z1 z2 z3 z4 z5 z6 z7 z8 z9 : Value} (h : w.heap[g]? = some (.cells #[z0, z1, z2, z3, z4, z5, z6, z7, z8, z9] t (0, 0))) (v0 v1 v2 v3 v4 v5 v6 v7 v8 v9 : Value) :
  ((((((((((w.setCell ⟨g, 0, none⟩ v0).setCell ⟨g, 1, none⟩ v1).setCell ⟨g, 2, none⟩ v2).setCell ⟨g, 3, none⟩ v3).setCell ⟨g, 4, none⟩ v4).setCell ⟨g, 5, none⟩ v5).setCell ⟨g, 6, none⟩ v6).setCell ⟨g, 7, none⟩ v7).setCell ⟨g, 8, none⟩ v8).setCell ⟨g, 9, none⟩ v9).heap[g]? = some (.cells #[v0, v1, v2, v3, v4, v5, v6, v7, v8, v9] t (0, 0)) ∧ Wrote g w ((((((((((w.setCell ⟨g, 0, none⟩ v0).setCell ⟨g, 1, none⟩ v1).setCell ⟨g, 2, none⟩ v2).setCell ⟨g, 3, none⟩ v3).setCell ⟨g, 4, none⟩ v4).setCell ⟨g, 5, none⟩ v5).setCell ⟨g, 6, none⟩ v6).setCell ⟨g, 7, none⟩ v7).setCell ⟨g, 8, none⟩ v8).setCell ⟨g, 9, none⟩ v9) := by
 have hP := (((((((((((Put1.refl h).set 0 v0).set 1 v1).set 2 v2).set 3 v3).set 4 v4).set 5 v5).set 6 v6).set 7 v7).set 8 v8).set 9 v9)
 exact ⟨by simpa using hP.heap, hP.wrote⟩
theorem Sls.elem2 {w : World} {A : Option Addr} {n c k : Nat} {vs : List Value} {bs : List (List Int)} (h : Sls w A n c vs) (hb : B8s w vs bs) (hk : k < n) :
  ∃ a Ak nk ck b, A = some a ∧ bs[k]? = some b ∧ vs[k]? = some (.slice Ak nk ck) ∧ w.cell? (a.add k) = some (.slice Ak nk ck) ∧ U8 w Ak nk ck b ∧ nk ≤ 65536 ∧ n ≤ c := by
 obtain ⟨a, Ak, nk, ck, b, rfl, eb, hc, hu, hn, hnc⟩ := h.elem hb hk
 obtain ⟨h1, h2, ⟨h3, _⟩ | ⟨a', e, h3⟩⟩ := h
 ·cases h3
 cases e
 have hv : k < vs.length := by omega
 have := h3 k _ (List.getElem?_eq_getElem hv)
 rw [hc] at this
 exact ⟨a, Ak, nk, ck, b, rfl, eb, by rw [List.getElem?_eq_getElem hv, ← Option.some.inj this], hc, hu, hn, hnc⟩
theorem heap_drew2 {w : World} {g : Nat} {o : Obj} (h : w.heap[g]? = some o) : w.drew.drew.heap[g]? = some o := h
abbrev no : Nat → Prop := fun _ => False
def GiveEnd (K : GrK) (G B0 B1 : Nat) (tv : Value) (r : Option Pk × GrS) (w : World) (e : Ending) (w' : World) : Prop :=
 ∃ q b A' n' c', e = .returned (.tuple #[pkV q (.slice A' n' c'), .bool b]) ∧ GrAt K G B0 B1 w' tv r.2 ∧ Mx (fun i => i = G) no w no w' ∧ U8 w' A' n' c' q.data ∧ (n' = 0 ∨ ∃ a, A' = some a ∧ Fx G B0 a.block) ∧ r.1 = (if b then some q else none)
end Go.Proofs.YtiajboiobjfcoaaGreatDoor

namespace Go.Proofs.YtiajboiobjfcoaaGreatDoor
open Go.Proofs Go.RowKit
attribute [local go_sem] lt2 lt3 lt4 lt5
theorem nil8 (w : World) (A : Option Addr) (n k : Nat) (hk : n ≤ k) : (Builtin.append_ #[23, 23] 23 #[.slice A n k, .slice none 0 0]).run Tryz.prog w = .ok (.slice A n k) w := by
 obtain ⟨i0, hi, hz0, hz1, hz2⟩ := info_parts info5
 have hul : Tryz.prog.underlying 23 = some (.slice 5) := Tryz.underlying23
 cases A <;> simp [Builtin.append_, run_underlying hul, sizeOf, typeInfo, hi, Builtin.lenOf, run_firstCells_none, storeCells, Sem.run_bind, Result.andThen, hk]
theorem app8 {w : World} {B1 : Nat} {tv : Value} {ys xs : List Int} {A : Option Addr} {n c : Nat} (hown : w.ownsRow B1 5 1 tv ys.length (ys.map (Value.int .u8))) (hu : U8 w A n c xs) (hn : n ≤ 1024) (hy : ys.length ≤ 1000000) (hB : B1 ≤ w.heap.size) :
  ∃ tv' w', (Builtin.append_ #[23, 23] 23 #[tv, .slice A n c]).run Tryz.prog w = .ok tv' w' ∧ w'.ownsRow B1 5 1 tv' (ys ++ xs).length ((ys ++ xs).map (Value.int .u8)) ∧ w.grownBy w' tv.ownBlock ∧ (∀ i, tv'.ownBlock = some i → tv.ownBlock = some i ∨ w.heap.size ≤ i) := by
 have hl := hu.1
 obtain ⟨i0, hi, hz0, hz1, hz2⟩ := info_parts info5
 rcases hu.2.2.2 with ⟨rfl, rfl, rfl⟩ | ⟨a, rfl, hc⟩
 ·have e0 := List.length_eq_zero_iff.1 hl
  subst e0
  obtain ⟨A, m, k, rfl, hk⟩ : ∃ A m k, tv = .slice A m k ∧ m ≤ k := by
   rcases hown.2 with ⟨rfl, _⟩ | ⟨g, cap, cur, rfl, _, _, hc, _⟩
   ·exact ⟨none, 0, 0, rfl, Nat.le_refl _⟩
   ·exact ⟨_, _, cap, rfl, hc⟩
  exact ⟨_, w, nil8 w A m k hk, by simpa using hown, ⟨rfl, rfl, rfl, Nat.le_refl _, fun _ _ _ => rfl⟩, fun i h => .inl h⟩
 ·obtain ⟨tv', w', hr, ho, hg, _, hat⟩ := run_append_own_at (P := Tryz.prog) w B1 23 23 5 i0 (.int .u8 0) 1 1 Tryz.underlying23 hi hz0 hz1 hz2 rfl (by decide) tv _ _ hown a n c (xs.map (Value.int .u8)) (by simp [hl]) (fun j u hj => by
   rw [List.getElem?_map, Option.map_eq_some_iff] at hj
   obtain ⟨x, hx, rfl⟩ := hj
   have hjn : j < n := by rw [← hl]; exact (List.getElem?_eq_some_iff.1 hx).1
   have := hc j hjn
   rw [hx] at this
   exact this) (fun u hu' => by obtain ⟨x, _, rfl⟩ := List.mem_map.1 hu'; rfl) (by unfold maxLen; omega) (by omega) hB
  refine ⟨tv', w', hr, by rw [List.length_append, hl, List.map_append]; exact ho, hg, fun i h => ?_⟩
  rcases hat with hat | hat
  ·exact .inl (by rw [← hat]; exact h)
  ·rw [hat] at h; exact .inr (by have := Option.some.inj h; omega)
end Go.Proofs.YtiajboiobjfcoaaGreatDoor

namespace Go.Proofs.YtiajboiobjfcoaaGreatDoor
open Go.Proofs Go.RowKit
attribute [local go_sem] lt2 lt3 lt4 lt5
def GrK.mine (K : GrK) (p : Pk) : Bool := decide (p.addr = 5) && decide (p.endp = K.endp)
def HearEnd (K : GrK) (G B0 B1 : Nat) (tv : Value) (r : Option Pk × GrS) (w : World) (e : Ending) (w' : World) : Prop :=
 ∃ q b A' n' c' tv', e = .returned (.tuple #[pkV q (.slice A' n' c'), .bool b]) ∧ GrAt K G B0 B1 w' tv' r.2 ∧ Mx (fun i => i = G ∨ tv.ownBlock = some i) no w no w' ∧ U8 w' A' n' c' q.data ∧ (n' = 0 ∨ ∃ a, A' = some a ∧ Fx G B0 a.block) ∧ r.1 = (if b then some q else none) ∧
  (∀ i, tv'.ownBlock = some i → tv.ownBlock = some i ∨ w.heap.size ≤ i)
theorem GrAt.wr {K : GrK} {G B0 B1 g : Nat} {w w' : World} {tv : Value} {s : GrS} (h : GrAt K G B0 B1 w tv s) (hW : Wrote g w w') (hg : g ≠ G) (h0 : B0 ≤ g) (ho : ∀ i, tv.ownBlock = some i → i ≠ g) : GrAt K G B0 B1 w' tv s :=
 ⟨(hW.other G (fun e => hg e.symm)).trans h.box, own_wg h.own hW ho, h.rng, h.lists.far (fun i hi => hW.other i (by have := hi.1; omega))⟩
theorem Mx.step {X Y S : Nat → Prop} {a b c : World} (h : Mx X S a S b) (k : Mx Y S b S c) (hx : ∀ i, X i → Y i) : Mx Y S a S c :=
 ⟨k.os.trans h.os, k.tape.trans h.tape, k.output.trans h.output, Nat.le_trans h.size k.size, fun i hi hs hy => (k.block i (Nat.lt_of_lt_of_le hi h.size) hs hy).trans (h.block i hi hs (fun h' => hy (hx i h'))), fun _ _ h => h⟩
theorem Mx.wider {X Y S : Nat → Prop} {a b : World} (h : Mx X S a S b) (hx : ∀ i, X i → Y i) : Mx Y S a S b :=
 ⟨h.os, h.tape, h.output, h.size, fun i hi hs hy => h.block i hi hs (fun h' => hy (hx i h')), h.sub⟩
end Go.Proofs.YtiajboiobjfcoaaGreatDoor

namespace Go.Proofs.YtiajboiobjfcoaaGreatDoor
open Go.Proofs Go.RowKit
attribute [local go_sem] lt2 lt3 lt4 lt5
def GrS.ask (K : GrK) (s : GrS) : Int × GrS := (if K.an < s.at_ + 1 then 0 else (K.ans[s.at_]?.getD 0) % 8, { s with at_ := s.at_ + 1 })
theorem GrAt.put {K : GrK} {G B0 B1 : Nat} {w w' : World} {tv : Value} {s s' : GrS} (h : GrAt K G B0 B1 w tv s) (hW : Wrote G w w') (hb : w'.heap[G]? = some (.cells (grCells K tv s') 34 (0, 0))) (ht : s'.taken = s.taken) (hGB : G < B1) : GrAt K G B0 B1 w' tv s' :=
 ⟨hb, by rw [ht]; exact own_wg h.own hW (fun i hi => by have := own_ge h.own i hi; omega), by rw [ht]; exact h.rng, h.lists.far fun i hi => hW.other i hi.2⟩
theorem GrAt.drew {K : GrK} {G B0 B1 : Nat} {w : World} {tv : Value} {s : GrS} (h : GrAt K G B0 B1 w tv s) : GrAt K G B0 B1 w.drew tv s := ⟨h.box, h.own, h.rng, h.lists⟩
theorem Wrote.dr {g : Nat} {w w' : World} (h : Wrote g w w') : Wrote g w w'.drew := ⟨h.os, h.tape, h.output, h.size, h.other⟩
theorem Wrote.drewN {g : Nat} {w w' : World} (h : Wrote g w w') (q : Nat) : Wrote g w (w'.drewN q) := ⟨h.os, h.tape, h.output, h.size, h.other⟩
set_option maxHeartbeats 4000000 in
set_option maxRecDepth 1000000 in
theorem answer_ret (K : GrK) (G B0 B1 : Nat) (tv : Value) (s : GrS) (w : World) (h : GrAt K G B0 B1 w tv s) (hr : s.room) (hGB : G < B1) :
  Calls Tryz.prog 128 #[.pointer (some ⟨G, 0, none⟩)] w fun e w' => e = .returned (.int .u8 (s.ask K).1) ∧ GrAt K G B0 B1 w' tv (s.ask K).2 ∧ Wrote G w w' := by
 obtain ⟨endp, inn, iso, ans, aA, an, ac, offs, vs, oA, on, oc⟩ := K
 obtain ⟨tg, at_, nx, wt, tk, taken, many⟩ := s
 have hbox := h.box
 unfold grCells at hbox
 dsimp only at hbox
 have hr1 : at_ ≤ 1000000000 := hr.1
 have hw1 := wrap1 hr1
 have b5 := cell_of hbox 5
 have f5 := frozen_of hbox 5
 go_enter Tryz.func128, Tryz.ntmps128
 go_upto_region 2 with fail
 obtain ⟨w1, hw1'⟩ : ∃ w1, w.setCell ⟨G, 5, none⟩ (.int .i64 ((at_ : Int) + 1)) = w1 := ⟨_, rfl⟩
 have hW1 : Wrote G w w1 := by rw [← hw1']; exact (Wrote.refl G w).setCell 5 _
 have hB1 : w1.heap[G]? = some (.cells #[.int .u8 endp, .bool inn, .bool iso, .bool tg, .slice aA an ac, .int .i64 ((at_ : Int) + 1), .slice oA on oc, .int .i64 (nx : Int), .bool wt, .bool tk, tv, .int .i64 (many : Int)] 34 (0, 0)) := by rw [← hw1']; exact setCell_heap hbox 5 _
 rw [hw1']
 clear hw1' b5 f5
 have g4 := cell_of hB1 4
 have g5 := cell_of hB1 5
 have hend : GrAt ⟨endp, inn, iso, ans, aA, an, ac, offs, vs, oA, on, oc⟩ G B0 B1 w1 tv ⟨tg, at_ + 1, nx, wt, tk, taken, many⟩ := h.put hW1 (by unfold grCells; rw [hB1]; simp) rfl hGB
 have hl := h.lists.1
 have hl4 := h.lists.2.2.2.1
 dsimp only at hl hl4
 clear h hbox
 have hw2 : IntKind.i64.wrap ((at_ : Int) + 1 - 1) = (at_ : Int) := by rw [IntWalk.i64_in _ (by omega)]; omega
 by_cases hlt : (an : Int) < (at_ : Int) + 1
 ·go_region
  all_goals
   go_wp2_with fail
   go_ret
   refine ⟨?_, hend.drew, hW1.dr⟩
   unfold GrS.ask
   rw [if_pos (by show an < at_ + 1; omega)]
   rfl
 ·have hat : at_ < an := by omega
  rcases hl.2.2.2 with ⟨_, h0, _⟩ | ⟨a, rfl, hc⟩
  ·omega
  have hab : Fx G B0 a.block := by
   rcases hl4 with h0 | ⟨a', e, hl⟩
   ·omega
   ·cases e; exact hl
  obtain ⟨x, hx⟩ : ∃ x, ans[at_]? = some x := ⟨_, List.getElem?_eq_getElem (by have := hl.1; omega)⟩
  have hxr := hl.2.1 x (List.mem_of_getElem? hx)
  have ck := hc at_ hat
  rw [hx] at ck
  have ck1 : w1.cell? (a.add at_) = some (.int .u8 x) := (World.cell?_of_block (w := w) (w' := w1) (a := a.add at_) (by rw [add_block']; exact hW1.other _ hab.2)).trans ck
  have HX := Lib.hid hx
  clear ck hc hx hl hl4
  have hw3 : IntKind.i64.wrap (at_ : Int) = (at_ : Int) := IntWalk.i64_in _ (by omega)
  have q3 : (at_ : Int) < (an : Int) := by omega
  go_region
  all_goals
   go_upto_region 4 with fail
   go_region
   all_goals
    go_wp2_with fail
    go_ret
    refine ⟨?_, hend.drew.drew, hW1.dr.dr⟩
    unfold GrS.ask
    rw [if_neg (by show ¬ an < at_ + 1; omega)]
    dsimp only
    rw [HX.out]
    rfl
end Go.Proofs.YtiajboiobjfcoaaGreatDoor
