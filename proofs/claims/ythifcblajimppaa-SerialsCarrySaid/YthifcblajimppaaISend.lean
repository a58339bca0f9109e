/-
  What is proved here: what the inner function of transactions.Speak that sends a packet does.
  Conditions: what its boxes hold.
-/
import Derived.Test.YthifcblajimppaaICopy
namespace Go.Proofs.Ythifcblajimppaa
open Go.Proofs Go.RowKit
attribute [local go_sem] lt2 lt3 lt4 lt5
structure Mx (X S : Nat → Prop) (w : World) (S' : Nat → Prop) (w' : World) : Prop where
 os : w'.os = w.os
 tape : w'.tape = w.tape
 output : w'.output = w.output
 size : w.heap.size ≤ w'.heap.size
 block : ∀ i, i < w.heap.size → ¬ S i → ¬ X i → w'.heap[i]? = w.heap[i]?
 sub : ∀ i, i < w.heap.size → S' i → S i
theorem Mv.mx {S S1 S' X : Nat → Prop} {a b c : World} (h : Mv S a S1 b) (k : Mx X S1 b S' c) (hX : ∀ i, X i → a.heap.size ≤ i) : Mv S a S' c :=
 ⟨k.os.trans h.os, k.tape.trans h.tape, k.output.trans h.output, Nat.le_trans h.size k.size,
  fun i hi hs => (k.block i (Nat.lt_of_lt_of_le hi h.size) (fun h' => hs (h.sub i hi h')) (fun hx => by have := hX i hx; omega)).trans (h.block i hi hs),
  fun i hi h' => h.sub i hi (k.sub i (Nat.lt_of_lt_of_le hi h.size) h')⟩
theorem Mx.heap {X S S' : Nat → Prop} {w w' : World} {g : Nat} {o : Obj} (h : Mx X S w S' w') (hg : w.heap[g]? = some o) (hs : ¬ S g) (hx : ¬ X g) : w'.heap[g]? = some o :=
 (h.block g (Array.getElem?_eq_some_iff.1 hg).1 hs hx).trans hg
theorem Mx.out {X S S' : Nat → Prop} {w w' : World} {g : Nat} (h : Mx X S w S' w') (hg : g < w.heap.size) (hs : ¬ S g) : ¬ S' g := fun h' => hs (h.sub g hg h')
theorem D8.mx {w w' : World} {X S S' : Nat → Prop} {A : Option Addr} {n c : Nat} {xs : List Int} (h : D8 w S A n c xs) (hm : Mx X S w S' w') (hx : n = 0 ∨ ∃ a, A = some a ∧ ¬ X a.block) : D8 w' S' A n c xs := by
 obtain ⟨⟨h1, h2, h3, h4⟩, h5⟩ := h
 rcases Nat.eq_zero_or_pos n with h0 | h0
 ·subst h0
  exact ⟨⟨h1, h2, h3, h4.imp id fun ⟨a, e, _⟩ => ⟨a, e, fun j hj => by omega⟩⟩, .inl rfl⟩
 ·rcases h4 with ⟨_, h4, _⟩ | ⟨a, rfl, h4⟩
  ·omega
  rcases h5 with h5 | ⟨a', e, hs⟩
  ·omega
  cases e
  rcases hx with hx | ⟨a', e, hx⟩
  ·omega
  cases e
  have hlt : a.block < w.heap.size := by
   have := World.block_lt_of_cell? _ _ (h4 0 h0)
   rwa [show (a.add 0) = a by simp [Addr.add]] at this
  refine ⟨⟨h1, h2, h3, .inr ⟨a, rfl, fun j hj => ?_⟩⟩, .inr ⟨a, rfl, hm.out hlt hs⟩⟩
  rw [World.cell?_of_block (w := w) (w' := w') (a := a.add j) ?_]
  ·exact h4 j hj
  ·rw [add_block']; exact hm.block _ hlt hs hx
theorem infoSent : (Try.prog.info? 118).map (fun i => (i.zero, i.size, i.bytes)) = some (some (.agg #[.int .u8 0, .int .u8 0, .int .u8 0, .int .u16 0, .int .u8 0, .int .u8 0, .bool false, .bool false, .int .u8 0, .slice none 0 0, .bool false, .int .u8 0]), 12, 48) := by kernel_rfl
def SentIn (w : World) (B sb : Nat) (sv : Value) (n : Nat) (us : List Value) : Prop :=
 w.heap[sb]? = some (.cells #[sv] 78 (0, 0)) ∧ w.ownsRow B 118 12 sv n us
theorem own_mv {S S' : Nat → Prop} {w w' : World} {B size n : Nat} {e : TypeId} {v : Value} {xs : List Value} (h : w.ownsRow B e size v n xs) (hm : Mv S w S' w') (hs : ∀ i, v.ownBlock = some i → ¬ S i) : w'.ownsRow B e size v n xs := by
 refine ⟨h.1, h.2.imp id ?_⟩
 rintro ⟨g, cap, cur, rfl, hg, hh, h3⟩
 exact ⟨g, cap, cur, rfl, hg, hm.heap hh (hs g rfl), h3⟩
theorem own_lt {w : World} {B size n : Nat} {e : TypeId} {v : Value} {xs : List Value} (h : w.ownsRow B e size v n xs) : ∀ i, v.ownBlock = some i → i < w.heap.size := by
 intro i hi
 rcases h.2 with ⟨rfl, _⟩ | ⟨g, cap, cur, rfl, _, hh, _⟩
 ·simp [Value.ownBlock] at hi
 ·simp [Value.ownBlock] at hi
  subst hi
  exact (Array.getElem?_eq_some_iff.1 hh).1
theorem send_end {M : Bus} {w w1 w2 w3 : World} {S S1 : Nat → Prop} {s1 : M.σ} {sb B k g2 cap2 H : Nat} {sv : Value} {us new : List Value} {o o2 : Obj}
  (hI1 : M.I w1 S1 s1) (hm1 : Mv S (w.alloc o) S1 w1) (hsz : w.heap.size < w1.heap.size) (hsb : SentIn w B sb sv k us) (hss : ¬ S sb) (h0 : M.B0 ≤ sb) (hsB : sb < B) (hso : ∀ i, sv.ownBlock = some i → ¬ S i)
  (hb2 : Below w1.heap.size w1 w2) (hown3 : w3.ownsRow B 118 12 (.slice (some ⟨g2, 0, none⟩) (k + 1) cap2) (k + 1) (us ++ new)) (hgrow3 : (w2.alloc o2).grownBy w3 sv.ownBlock)
  (hat3 : sv.ownBlock = some g2 ∨ g2 = H) (hH : w1.heap.size ≤ H) (hY3 : w3.heap[sb]? = some (.cells #[sv] 78 (0, 0))) :
  M.I (w3.setCell ⟨sb, 0, none⟩ (.slice (some ⟨g2, 0, none⟩) (k + 1) cap2)) S1 s1 ∧ Mx (fun i => i = sb ∨ sv.ownBlock = some i) S w S1 (w3.setCell ⟨sb, 0, none⟩ (.slice (some ⟨g2, 0, none⟩) (k + 1) cap2)) ∧
   SentIn (w3.setCell ⟨sb, 0, none⟩ (.slice (some ⟨g2, 0, none⟩) (k + 1) cap2)) B sb (.slice (some ⟨g2, 0, none⟩) (k + 1) cap2) (k + 1) (us ++ new) ∧ (∀ i, (Value.slice (some ⟨g2, 0, none⟩) (k + 1) cap2).ownBlock = some i → ¬ S1 i) := by
 have hsl : sb < w.heap.size := (Array.getElem?_eq_some_iff.1 hsb.1).1
 have hol := own_lt hsb.2
 have hW := (Wrote.refl sb w3).setCell 0 (.slice (some ⟨g2, 0, none⟩) (k + 1) cap2)
 have hba : Below w.heap.size w (w.alloc o) := (Below.refl _ w).alloc (Nat.le_refl _) o
 have hb2a : Below w1.heap.size w1 (w2.alloc o2) := hb2.trans (((Below.refl _ w2).alloc (Nat.le_refl _) o2).mono hb2.size)
 have h03 : Below 0 (w2.alloc o2) w3 := (Below.refl 0 _).grown hgrow3 (Nat.zero_le _) (fun _ _ => Nat.zero_le _)
 have hout : ∀ i, i < w.heap.size → ¬ S i → ¬ S1 i := fun i hi hs => hm1.out (Nat.lt_of_lt_of_le hi hba.size) hs
 have hkeep : ∀ i, i < w1.heap.size → i ≠ sb → sv.ownBlock ≠ some i → (w3.setCell ⟨sb, 0, none⟩ (.slice (some ⟨g2, 0, none⟩) (k + 1) cap2)).heap[i]? = w1.heap[i]? := by
  intro i hi h1 h2
  rw [hW.other i h1, hgrow3.block i (by have := hb2a.size; omega) (fun e => h2 e.symm)]
  exact hb2a.block i hi
 refine ⟨M.keep hI1 (fun i hi => hkeep i ?_ ?_ ?_) ?_, ⟨?_, ?_, ?_, ?_, fun i hi hs hx => ?_, fun i hi h' => hm1.sub i (Nat.lt_of_lt_of_le hi hba.size) h'⟩, ⟨?_, hW.own hown3 hsB⟩, ?_⟩
 ·exact hi.elim (fun h => Nat.lt_of_lt_of_le h (M.base hI1)) (M.lt hI1 i)
 ·rintro rfl
  rcases hi with h | h
  ·omega
  ·exact hout _ hsl hss h
 ·intro e
  rcases hi with h | h
  ·have := own_ge hsb.2 i e; omega
  ·exact hout _ (hol i e) (hso i e) h
 ·rw [hW.size]; exact Nat.le_trans hb2a.size h03.size
 ·exact hW.os.trans (h03.os.trans (hb2a.os.trans (hm1.os.trans hba.os)))
 ·exact hW.tape.trans (h03.tape.trans (hb2a.tape.trans (hm1.tape.trans hba.tape)))
 ·exact hW.output.trans (h03.output.trans (hb2a.output.trans (hm1.output.trans hba.output)))
 ·rw [hW.size]; exact Nat.le_trans (Nat.le_of_lt hsz) (Nat.le_trans hb2a.size h03.size)
 ·rw [hkeep i (by omega) (fun e => hx (.inl e)) (fun e => hx (.inr e)), hm1.block i (Nat.lt_of_lt_of_le hi hba.size) hs]
  exact hba.block i hi
 ·exact setCell_heap hY3 0 _
 ·intro i hi
  simp [Value.ownBlock] at hi
  subst hi
  rcases hat3 with h | h
  ·exact hout _ (hol _ h) (hso _ h)
  ·intro hs; have := M.lt hI1 _ hs; omega
set_option maxHeartbeats 4000000 in
set_option maxRecDepth 1000000 in
theorem send_ret (M : Bus) (p : Pk) (A : Option Addr) (n c : Nat) (host : Bool) (w : World) (S : Nat → Prop) (s : M.σ) (wb sb B k : Nat) (sv : Value) (us : List Value)
    (hI : M.I w S s) (hd : D8 w S A n c p.data) (hn : n ≤ 1024) (hwb : w.heap[wb]? = some (.cells #[M.wv] 108 (0, 0))) (hsb : SentIn w B sb sv k us) (hss : ¬ S sb) (hk : k ≤ 2)
    (h0 : M.B0 ≤ sb) (hBw : B ≤ w.heap.size) (hsB : sb < B) (hso : ∀ i, sv.ownBlock = some i → ¬ S i) :
    Calls Try.prog 49 #[pkV p (.slice A n c), .bool host, .pointer (some ⟨wb, 0, none⟩), .pointer (some ⟨sb, 0, none⟩)] w fun e w' =>
      ∃ S' sv' A2, e = .returned (.bool (decide ((M.nx s).1 = 0))) ∧ M.I w' S' (M.nx s).2 ∧ Mx (fun i => i = sb ∨ sv.ownBlock = some i) S w S' w' ∧
        SentIn w' B sb sv' (k + 1) (us ++ [.int .u8 p.pid, .int .u8 p.addr, .int .u8 p.endp, .int .u16 0, .int .u8 0, .int .u8 0, .bool false, .bool false, .int .u8 0, .slice A2 n n, .bool host, .int .u8 (M.nx s).1]) ∧ (∀ i, sv'.ownBlock = some i → ¬ S' i) := by
  unfold pkV
  have hba : ∀ o, Below w.heap.size w (w.alloc o) := fun o => (Below.refl _ w).alloc (Nat.le_refl _) o
  have hN := fun o => M.next (Bus.below hI (hba o))
  obtain ⟨f, hf⟩ : ∃ f, (M.nx s).1 = f := ⟨_, rfl⟩
  obtain ⟨s1, hs1⟩ : ∃ s1, (M.nx s).2 = s1 := ⟨_, rfl⟩
  simp only [hf, hs1] at hN ⊢
  clear hf hs1
  go_enter Try.func49, Try.ntmps49
  have c0 := fun o => cell_of (heap_below hwb (hba o)) 0
  go_wp2_with fail
  refine (hN _).mono ?_
  clear hN
  rintro e w1 ⟨S1, rfl, hI1, hm1⟩
  have hP1 := hm1.heap (heap_alloc_new w _) (Bus.new hI (Nat.le_refl _))
  have hB1 := hm1.heap (heap_below hsb.1 (hba _)) hss
  have hO1 := own_mv (own_below hsb.2 (hba _)) hm1 hso
  have hd1 := (hd.below (hba _)).mv hm1
  have hx1 := hd1.1
  have hw01 := (hba (.cells #[.int .u8 p.pid, .int .u8 p.addr, .int .u8 p.endp, .int .u16 0, .int .u8 0, .int .u8 0, .bool false, .bool false, .int .u8 0, .slice A n c] 113)).size
  have hw1 := hm1.size
  have hsz : w.heap.size < w1.heap.size := (Array.getElem?_eq_some_iff.1 hP1).1
  obtain ⟨i0, hi, hz0, hz1, hz2⟩ := info_parts infoSent
  have cs1 := cell_of hB1 0
  have p0 := cell_of hP1 0
  have p1 := cell_of hP1 1
  have p2 := cell_of hP1 2
  have p3 := cell_of hP1 3
  have p4 := cell_of hP1 4
  have p5 := cell_of hP1 5
  have p6 := cell_of hP1 6
  have p7 := cell_of hP1 7
  have p8 := cell_of hP1 8
  have p9 := cell_of hP1 9
  have hcp : ∀ w', U8 w' A n c p.data → Calls Try.prog 51 #[pkV p (.slice A n c)] w' _ := fun w' h => copied_ret p A n c w' h (by omega)
  simp only [pkV] at hcp
  go_wp2_with fail
  go_region_law
    (first
      | (go_simp; go_at_call 51; refine (hcp _ (hx1.drew)).mono ?_; rintro e w2 ⟨hb2, A2, rfl, hN2⟩; replace hb2 : Below w1.heap.size w1 w2 := below_undrew hb2
         have cs2 := (hb2.cell (World.block_lt_of_cell? _ _ cs1)).trans cs1
         have cs3 : ∀ o : Obj, (w2.alloc o).cell? ⟨sb, 0, none⟩ = some sv := fun o => (World.cell?_alloc_lt _ _ _ (World.block_lt_of_cell? _ _ cs2)).trans cs2)
      | (refine step_append_lies _ rfl (.tmp 10) (.tmp 16) 78 rfl B 118 i0 (.agg #[.int .u8 0, .int .u8 0, .int .u8 0, .int .u16 0, .int .u8 0, .int .u8 0, .bool false, .bool false, .int .u8 0, .slice none 0 0, .bool false, .int .u8 0]) 12 48 Try.underlying78 hi hz0 hz1 hz2 rfl (by decide) sv k us rfl (own_below (own_below hO1 hb2) ((Below.refl _ _).alloc (Nat.le_refl _) _)) ⟨w2.heap.size, 0, none⟩ 1 1 [.int .u8 p.pid, .int .u8 p.addr, .int .u8 p.endp, .int .u16 0, .int .u8 0, .int .u8 0, .bool false, .bool false, .int .u8 0, .slice A2 n n, .bool host, .int .u8 f] rfl rfl (World.news_of_block (heap_alloc_new w2 _)) (by simp [Value.oneCell']) (by omega) (by unfold maxLen; omega) (by omega) (by have := hb2.size; simp; omega) _ rfl ?_; intro g2 cap2 w3 hown3 hgrow3 hat3 hlt3
         have hY3 := heap_grown (heap_below (heap_below hB1 hb2) ((Below.refl _ _).alloc (Nat.le_refl _) (.cells #[.int .u8 p.pid, .int .u8 p.addr, .int .u8 p.endp, .int .u16 0, .int .u8 0, .int .u8 0, .bool false, .bool false, .int .u8 0, .slice A2 n n, .bool host, .int .u8 f] 118))) hgrow3 (fun e => by have := own_ge hO1 _ e; omega)
         have z3 := cell_of hY3 0
         have f3 := frozen_of hY3 0))
  all_goals
    have hfin := send_end (o := .cells #[.int .u8 p.pid, .int .u8 p.addr, .int .u8 p.endp, .int .u16 0, .int .u8 0, .int .u8 0, .bool false, .bool false, .int .u8 0, .slice A n c] 113) hI1 hm1 hsz hsb hss h0 hsB hso hb2 hown3 hgrow3 hat3 (by have := hb2.size; simp; omega) hY3
    obtain ⟨w4, hw4⟩ : ∃ w4, w3.setCell ⟨sb, 0, none⟩ (.slice (some ⟨g2, 0, none⟩) (k + 1) cap2) = w4 := ⟨_, rfl⟩
    rw [hw4] at hfin ⊢
    clear hw4 hown3 hgrow3 hat3 hlt3 hY3 z3 f3 cs2 cs3
    by_cases hz : f = 0
    all_goals
      go_wp2_with fail
      go_ret
      exact ⟨S1, _, A2, by simp [hz], hfin⟩
end Go.Proofs.Ythifcblajimppaa
