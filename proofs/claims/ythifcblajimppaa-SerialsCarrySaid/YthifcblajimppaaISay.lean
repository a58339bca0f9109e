/-
  What is proved here: what the inner function of transactions.Do that speaks does.
  Conditions: what its boxes hold; the device's and the wire's contracts.
-/
import Derived.Test.YthifcblajimppaaISpeak
namespace Go.Proofs.Ythifcblajimppaa
open Go.Proofs Go.RowKit
attribute [local go_sem] lt2 lt3 lt4 lt5
def Bus.dev (M : Bus) (dev : Bool) (s : M.σ) : Bool := dev && decide ((M.nx s).1 = 0)
def SayEnd (M : Bus) (dev : Bool) (s : M.σ) (p : Pk) (dB sB B : Nat) (sv : Value) (k : Nat) (w : World) (S : Nat → Prop) (e : Ending) (w' : World) : Prop :=
 ∃ S' A' n' c' sv' k' us', e = .returned (.tuple #[pkV ((M.speak dev s p).1.getD pk0) (.slice A' n' c'), .bool (M.speak dev s p).1.isSome]) ∧ M.I w' S' (M.speak dev s p).2 ∧ Mx (fun i => i = dB ∨ i = sB ∨ sv.ownBlock = some i) S w S' w' ∧
  D8 w' S' A' n' c' ((M.speak dev s p).1.getD pk0).data ∧ (n' = 0 ∨ ∃ a, A' = some a ∧ w.heap.size ≤ a.block ∧ sv'.ownBlock ≠ some a.block) ∧ w'.heap[dB]? = some (.cells #[devV M (M.dev dev s)] 106 (0, 0)) ∧ SentIn w' B sB sv' k' us' ∧ k' ≤ k + 2 ∧ (∀ i, sv'.ownBlock = some i → ¬ S' i) ∧ (∀ i, sv'.ownBlock = some i → sv.ownBlock = some i ∨ w.heap.size ≤ i)
theorem own_wr {w w' : World} {B size n g : Nat} {e : TypeId} {v : Value} {xs : List Value} (h : w.ownsRow B e size v n xs) (hW : Wrote g w w') (hne : ∀ i, v.ownBlock = some i → i ≠ g) : w'.ownsRow B e size v n xs := by
 refine ⟨h.1, h.2.imp id ?_⟩
 rintro ⟨k, cap, cur, rfl, hg, hh, h3⟩
 exact ⟨k, cap, cur, rfl, hg, (hW.other k (hne k rfl)).trans hh, h3⟩
theorem say_end {M : Bus} {s0 : M.σ} {w wa w1 w3 w4 w5 w6 : World} {S S1 : Nat → Prop} {s2 : M.σ} {dB sB B k k' n1 c1 g2 cap2 : Nat} {sv : Value} {us us' : List Value} {A1 : Option Addr} {xs : List Int} {oa : Obj}
  (hwa : Below w.heap.size w wa) (hwas : wa.heap.size = w.heap.size + 1 + 1) (hm1 : Mv S wa S1 w1) (hI0 : M.I w S s0) (hI1 : M.I w1 S1 s2) (hd1 : D8 w1 S1 A1 n1 c1 xs) (hf1 : n1 = 0 ∨ ∃ a, A1 = some a ∧ wa.heap.size ≤ a.block)
  (hsB : SentIn w B sB sv k us) (hds : ¬ S dB) (hss : ¬ S sB) (h0d : M.B0 ≤ dB) (h0s : M.B0 ≤ sB) (hdb : dB < B) (hsb : sB < B) (hBw : B ≤ w.heap.size) (hso : ∀ i, sv.ownBlock = some i → ¬ S i)
  (hgrow : (w1.alloc oa).grownBy w3 sv.ownBlock) (hown : w3.ownsRow B 118 12 (.slice (some ⟨g2, 0, none⟩) k' cap2) k' us') (hat : sv.ownBlock = some g2 ∨ g2 = (w1.alloc oa).heap.size)
  (hW4 : Wrote sB w3 w4) (hZ4 : w4.heap[sB]? = some (.cells #[.slice (some ⟨g2, 0, none⟩) k' cap2] 78 (0, 0))) (hW5 : Wrote dB w4 w5) (hne : dB ≠ sB) (hW6 : Wrote (w.heap.size + 1) w5 w6) :
  M.I w6 S1 s2 ∧ Mx (fun i => i = dB ∨ i = sB ∨ sv.ownBlock = some i) S w S1 w6 ∧ D8 w6 S1 A1 n1 c1 xs ∧ (n1 = 0 ∨ ∃ a, A1 = some a ∧ w.heap.size ≤ a.block ∧ (Value.slice (some ⟨g2, 0, none⟩) k' cap2).ownBlock ≠ some a.block) ∧
   SentIn w6 B sB (.slice (some ⟨g2, 0, none⟩) k' cap2) k' us' ∧ (∀ i, (Value.slice (some ⟨g2, 0, none⟩) k' cap2).ownBlock = some i → ¬ S1 i) ∧ (∀ i, (Value.slice (some ⟨g2, 0, none⟩) k' cap2).ownBlock = some i → sv.ownBlock = some i ∨ w.heap.size ≤ i) := by
 have hol := own_lt hsB.2
 have hwas' := hwa.size
 have hm1s := hm1.size
 have ha := (Below.refl w1.heap.size w1).alloc (Nat.le_refl _) oa
 have has := ha.size
 have hgs : (w1.alloc oa).heap.size ≤ w3.heap.size := ((Below.refl 0 (w1.alloc oa)).grown hgrow (Nat.zero_le _) (fun _ _ => Nat.zero_le _)).size
 have h03 : Below 0 (w1.alloc oa) w3 := (Below.refl 0 _).grown hgrow (Nat.zero_le _) (fun _ _ => Nat.zero_le _)
 have hkeep : ∀ i, i < w1.heap.size → i ≠ dB → i ≠ sB → sv.ownBlock ≠ some i → i ≠ w.heap.size + 1 → w6.heap[i]? = w1.heap[i]? := by
  intro i hi h1 h2 h3 h4
  rw [hW6.other i h4, hW5.other i h1, hW4.other i h2, hgrow.block i (by omega) (fun e => h3 e.symm)]
  exact ha.block i hi
 have hn1 : ¬ S1 (w.heap.size + 1) := hm1.out (by omega) (fun h => by have := M.lt hI0 _ h; omega)
 have hd1' : ¬ S1 dB := hm1.out (by omega) hds
 have hs1' : ¬ S1 sB := hm1.out (by omega) hss
 have ho1' : ∀ i, sv.ownBlock = some i → ¬ S1 i := fun i hi => hm1.out (by have := hol i hi; omega) (hso i hi)
 have hsz6 : w6.heap.size = w3.heap.size := hW6.size.trans (hW5.size.trans hW4.size)
 have hB0 := M.base hI0
 refine ⟨M.keep hI1 (fun i hi => hkeep i ?_ ?_ ?_ ?_ ?_) (by rw [hsz6]; omega), ⟨?_, ?_, ?_, ?_, fun i hi hs hx => ?_, fun i hi h' => hm1.sub i (by omega) h'⟩, ?_, ?_, ⟨?_, ?_⟩, ?_, ?_⟩
 ·exact hi.elim (fun h => Nat.lt_of_lt_of_le h (M.base hI1)) (M.lt hI1 i)
 ·rintro rfl; rcases hi with h | h; omega; exact hd1' h
 ·rintro rfl; rcases hi with h | h; omega; exact hs1' h
 ·intro e; rcases hi with h | h
  ·have := own_ge hsB.2 i e; omega
  ·exact ho1' i e h
 ·rintro rfl; rcases hi with h | h; omega; exact hn1 h
 ·exact hW6.os.trans (hW5.os.trans (hW4.os.trans (h03.os.trans (ha.os.trans (hm1.os.trans hwa.os)))))
 ·exact hW6.tape.trans (hW5.tape.trans (hW4.tape.trans (h03.tape.trans (ha.tape.trans (hm1.tape.trans hwa.tape)))))
 ·exact hW6.output.trans (hW5.output.trans (hW4.output.trans (h03.output.trans (ha.output.trans (hm1.output.trans hwa.output)))))
 ·rw [hsz6]; omega
 ·rw [hkeep i (by omega) (fun e => hx (.inl e)) (fun e => hx (.inr (.inl e))) (fun e => hx (.inr (.inr e))) (by omega), hm1.block i (by omega) hs]
  exact hwa.block i hi
 ·rcases hf1 with h0 | ⟨a, rfl, hf⟩
  ·subst h0
   obtain ⟨⟨h1, h2, h3, h4⟩, _⟩ := hd1
   exact ⟨⟨h1, h2, h3, h4.imp id fun ⟨a, e, _⟩ => ⟨a, e, fun j hj => by omega⟩⟩, .inl rfl⟩
  ·rcases Nat.eq_zero_or_pos n1 with h0 | h0
   ·subst h0
    obtain ⟨⟨h1, h2, h3, h4⟩, _⟩ := hd1
    exact ⟨⟨h1, h2, h3, h4.imp id fun ⟨a, e, _⟩ => ⟨a, e, fun j hj => by omega⟩⟩, .inl rfl⟩
   ·obtain ⟨⟨h1, h2, h3, h4⟩, h5⟩ := hd1
    rcases h4 with ⟨h4, _⟩ | ⟨a', e, h4⟩
    ·cases h4
    cases e
    have hlt : a.block < w1.heap.size := by
     have := World.block_lt_of_cell? _ _ (h4 0 h0)
     rwa [show (a.add 0) = a by simp [Addr.add]] at this
    refine ⟨⟨h1, h2, h3, .inr ⟨a, rfl, fun j hj => ?_⟩⟩, h5⟩
    rw [World.cell?_of_block (w := w1) (w' := w6) (a := a.add j) ?_]
    ·exact h4 j hj
    ·rw [add_block']
     exact hkeep _ hlt (by omega) (by omega) (fun e => by have := hol _ e; omega) (by omega)
 ·rcases Nat.eq_zero_or_pos n1 with h0 | h0
  ·exact .inl h0
  rcases hf1 with h0 | ⟨a, rfl, hf⟩
  ·exact .inl h0
  refine .inr ⟨a, rfl, by omega, fun e => ?_⟩
  have hlt : a.block < w1.heap.size := by
   obtain ⟨⟨h1, h2, h3, h4⟩, h5⟩ := hd1
   rcases h4 with ⟨h4, _⟩ | ⟨a', e, h4⟩
   ·cases h4
   cases e
   have := World.block_lt_of_cell? _ _ (h4 0 h0)
   rwa [show (a.add 0) = a by simp [Addr.add]] at this
  simp [Value.ownBlock] at e
  rcases hat with h | h
  ·have := hol _ h; omega
  ·omega
 ·rw [hW6.other _ (by omega), hW5.other _ (fun e => hne e.symm)]; exact hZ4
 ·refine own_wr (hW5.own (hW4.own hown hsb) hdb) hW6 (fun i hi => ?_)
  simp [Value.ownBlock] at hi
  subst hi
  rcases hat with h | h
  ·have := hol _ h; omega
  ·omega
 ·intro i hi
  simp [Value.ownBlock] at hi
  subst hi
  rcases hat with h | h
  ·exact ho1' _ h
  ·intro hs; have := M.lt hI1 _ hs; omega
 ·intro i hi
  simp [Value.ownBlock] at hi
  subst hi
  exact hat.imp id (fun h => by omega)
set_option maxHeartbeats 4000000 in
set_option maxRecDepth 1000000 in
theorem say_ret (M : Bus) (dev : Bool) (p : Pk) (A : Option Addr) (n c : Nat) (w : World) (S : Nat → Prop) (s : M.σ) (dB wB sB B k : Nat) (sv : Value) (us : List Value)
  (hI : M.I w S s) (hd : D8 w S A n c p.data) (hn : n ≤ 1024) (hck : CkOk p) (hok : dev = true → M.Ok p ∧ M.room (M.nx s).2) (hans : ∀ s q, (M.hr s p).1 = some q → CkOk q ∧ q.data.length ≤ 1024)
  (hdB : w.heap[dB]? = some (.cells #[devV M dev] 106 (0, 0))) (hwB : w.heap[wB]? = some (.cells #[M.wv] 108 (0, 0))) (hsB : SentIn w B sB sv k us) (hk : k ≤ 20)
  (hds : ¬ S dB) (hss : ¬ S sB) (h0d : M.B0 ≤ dB) (h0s : M.B0 ≤ sB) (hne : dB ≠ sB) (hdb : dB < B) (hsb : sB < B) (hBw : B ≤ w.heap.size) (hso : ∀ i, sv.ownBlock = some i → ¬ S i) :
  Calls Try.prog 42 #[pkV p (.slice A n c), .pointer (some ⟨dB, 0, none⟩), .pointer (some ⟨wB, 0, none⟩), .pointer (some ⟨sB, 0, none⟩)] w (SayEnd M dev s p dB sB B sv k w S) := by
 have hsp := fun (w : World) S h1 h2 => speak_ret M dev p A n c w S s h1 h2 hn hck hok hans
 have hb2 : ∀ a b, Below w.heap.size w ((w.alloc a).alloc b) := fun a b => ((Below.refl w.heap.size w).alloc (Nat.le_refl _) a).alloc (by simp) b
 have cd := fun a b => cell_of (heap_below hdB (hb2 a b)) 0
 have cw := fun a b => cell_of (heap_below hwB (hb2 a b)) 0
 unfold pkV
 simp only [pkV] at hsp
 obtain ⟨dv, hdv⟩ : ∃ dv, devV M dev = dv := ⟨_, rfl⟩
 simp only [hdv] at hsp cd
 go_enter Try.func42, Try.ntmps42
 have hbp := hb2 (.cells #[.int .u8 p.pid, .int .u8 p.addr, .int .u8 p.endp, .int .u16 0, .int .u8 0, .int .u8 0, .bool false, .bool false, .int .u8 0, .slice A n c] 113) (.cells #[.int .u8 0, .int .u8 0, .int .u8 0, .int .u16 0, .int .u8 0, .int .u8 0, .bool false, .bool false, .int .u8 0, .slice none 0 0] 113)
 have hY1 := alloc2_1 w (.cells #[.int .u8 p.pid, .int .u8 p.addr, .int .u8 p.endp, .int .u16 0, .int .u8 0, .int .u8 0, .bool false, .bool false, .int .u8 0, .slice A n c] 113) (.cells #[.int .u8 0, .int .u8 0, .int .u8 0, .int .u16 0, .int .u8 0, .int .u8 0, .bool false, .bool false, .int .u8 0, .slice none 0 0] 113)
 go_wp2_with fail
 refine (hsp _ S (Bus.below hI hbp) (hd.below hbp)).mono ?_
 clear hsp
 rintro e w1 ⟨S1, A1, n1, c1, sA, sn, sc, rfl, hI1, hm1, hd1, hf1, a1, us1, rfl, hs1, hbl1, hk1, hk2, hk3, hl1, hc1, hbs1, h11⟩
 obtain ⟨q, hq⟩ : ∃ q, (M.speak dev s p).1.getD pk0 = q := ⟨_, rfl⟩
 obtain ⟨ok, hok'⟩ : ∃ ok, (M.speak dev s p).1.isSome = ok := ⟨_, rfl⟩
 rw [hq] at hd1
 rw [hq, hok']
 have HQ := Lib.hid hq
 have HOK := Lib.hid hok'
 clear hq hok'
 obtain ⟨i0, hi, hz0, hz1, hz2⟩ := info_parts infoSent
 have hS1 := hm1.heap (heap_below hsB.1 hbp) hss
 have hD1 := hm1.heap (heap_below hdB hbp) hds
 have hR1 := hm1.heap hY1 (Bus.new hI (Nat.le_succ _))
 have hO1 := own_mv (own_below hsB.2 hbp) hm1 hso
 have hba : ∀ o, Below w1.heap.size w1 (w1.alloc o) := fun o => (Below.refl _ w1).alloc (Nat.le_refl _) o
 have hsz1 := hm1.size
 have hszp := hbp.size
 have csa := fun o => cell_of (heap_below hS1 (hba o)) 0
 have hnews : ∀ (j : Nat) u, us1[j]? = some u → (w1.alloc (.cells #[.int .u8 q.pid, .int .u8 q.addr, .int .u8 q.endp, .int .u16 0, .int .u8 0, .int .u8 0, .bool false, .bool false, .int .u8 0, .slice A1 n1 c1] 113)).cell? ((⟨a1, 0, none⟩ : Addr).add j) = some u := fun j u hj => ((hba _).cell (World.block_lt_of_cell? _ _ (hc1 j u hj))).trans (hc1 j u hj)
 have hm0 : 0 < sn := hk1
 have h63 : k + sn ≤ maxLen := by unfold maxLen; omega
 have hby : (k + sn) * 48 ≤ 140737488355328 := by omega
 have hbB : B ≤ (w1.alloc (.cells #[.int .u8 q.pid, .int .u8 q.addr, .int .u8 q.endp, .int .u16 0, .int .u8 0, .int .u8 0, .bool false, .bool false, .int .u8 0, .slice A1 n1 c1] 113)).heap.size := by have := (hba (.cells #[.int .u8 q.pid, .int .u8 q.addr, .int .u8 q.endp, .int .u16 0, .int .u8 0, .int .u8 0, .bool false, .bool false, .int .u8 0, .slice A1 n1 c1] 113)).size; omega
 unfold pkV
 go_wp2_with (at_builtin; refine wpList_append_lies _ rfl (.tmp 18) (.tmp 19) 78 rfl B 118 i0 (.agg #[.int .u8 0, .int .u8 0, .int .u8 0, .int .u16 0, .int .u8 0, .int .u8 0, .bool false, .bool false, .int .u8 0, .slice none 0 0, .bool false, .int .u8 0]) 12 48 Try.underlying78 hi hz0 hz1 hz2 rfl (by decide) sv k us rfl (own_below hO1 (hba _)) ⟨a1, 0, none⟩ sn sc us1 rfl hl1 hnews hbs1 hm0 h63 hby hbB _ rfl ?_)
 intro g2 cap2 w3 hown3 hgrow3 hat3 hlt3
 have hS3 := heap_grown (heap_below hS1 (hba _)) hgrow3 (fun e => by have := own_ge hO1 _ e; omega)
 have z3 := cell_of hS3 0
 have f3 := frozen_of hS3 0
 have hol := own_lt hO1
 have hge := own_ge hsB.2
 have hol0 := own_lt hsB.2
 have hsBl := (Array.getElem?_eq_some_iff.1 hsB.1).1
 have hdBl := (Array.getElem?_eq_some_iff.1 hdB).1
 have hA3 := heap_grown (heap_alloc_new w1 (.cells #[.int .u8 q.pid, .int .u8 q.addr, .int .u8 q.endp, .int .u16 0, .int .u8 0, .int .u8 0, .bool false, .bool false, .int .u8 0, .slice A1 n1 c1] 113)) hgrow3 (fun e => by have := hol _ e; omega)
 have hD3 := heap_grown (heap_below hD1 (hba _)) hgrow3 (fun e => by have := hge _ e; omega)
 have hR3 := heap_grown (heap_below hR1 (hba _)) hgrow3 (fun e => by have := hol0 _ e; omega)
 have hg11 : a1 < w1.heap.size := by
  have := World.block_lt_of_cell? _ _ (hc1 11 _ h11)
  rwa [add_block'] at this
 have hszs : w.heap.size + 1 + 1 ≤ a1 := by simpa using hbl1
 have hc3 : w3.cell? ⟨a1, 11, none⟩ = some (.int .u8 (M.nx s).1) := by
  rw [World.cell?_of_block (w := w1.alloc (.cells #[.int .u8 q.pid, .int .u8 q.addr, .int .u8 q.endp, .int .u16 0, .int .u8 0, .int .u8 0, .bool false, .bool false, .int .u8 0, .slice A1 n1 c1] 113)) (w' := w3) (a := ⟨a1, 11, none⟩) (hgrow3.block a1 (by have := (hba (.cells #[.int .u8 q.pid, .int .u8 q.addr, .int .u8 q.endp, .int .u16 0, .int .u8 0, .int .u8 0, .bool false, .bool false, .int .u8 0, .slice A1 n1 c1] 113)).size; omega) (fun e => by have := hol0 _ e.symm; omega))]
  exact hnews 11 _ h11
 go_upto_region 3 with fail
 obtain ⟨w4, hw4⟩ : ∃ w4, w3.setCell ⟨sB, 0, none⟩ (.slice (some ⟨g2, 0, none⟩) (k + sn) cap2) = w4 := ⟨_, rfl⟩
 have hW4 : Wrote sB w3 w4 := by rw [← hw4]; exact (Wrote.refl sB w3).setCell 0 _
 have hZ4 : w4.heap[sB]? = some (.cells #[.slice (some ⟨g2, 0, none⟩) (k + sn) cap2] 78 (0, 0)) := by rw [← hw4]; exact setCell_heap hS3 0 _
 rw [hw4]
 clear hw4 csa z3 f3 hS3
 have hA4 := (hW4.other w1.heap.size (by omega)).trans hA3
 have hD4 := (hW4.other dB hne).trans hD3
 have hR4 := (hW4.other (w.heap.size + 1) (by omega)).trans hR3
 have hc4 := (hW4.cell (p := ⟨a1, 11, none⟩) (by show a1 ≠ sB; omega)).trans hc3
 clear hA3 hD3 hR3 hc3
 have hend := fun w5 w6 => say_end (M := M) (s0 := s) (s2 := (M.speak dev s p).2) (dB := dB) (w5 := w5) (w6 := w6) hbp (by simp) hm1 hI hI1 hd1 hf1 hsB hds hss h0d h0s hdb hsb hBw hso hgrow3 hown3 (by simpa using hat3) hW4 hZ4
 have q0 : (0 : Int) < (sn : Int) := by omega
 obtain ⟨f, hf⟩ : ∃ f, (M.nx s).1 = f := ⟨_, rfl⟩
 rw [hf] at hc4
 have HF := Lib.hid hf
 clear hf hnews hc1 hbs1
 by_cases hz : f = 0
 ·subst hz
  have hA5 := hA4
  have hR5 := hR4
  go_wp2_with (guard_target =~ wpList _ _ _ (_ :: _) _ _; first
   | refine wpList_load_row rfl (.tmp 7) 113 rfl w1.heap.size 113 _ _ rfl hA5 Try.underlying113 rfl (by kernel_rfl) ?_
   | (refine wpList_store_row rfl (.tmp 5) (.tmp 31) 113 rfl (w.heap.size + 1) 0 113 _ _ #[.int .u8 q.pid, .int .u8 q.addr, .int .u8 q.endp, .int .u16 0, .int .u8 0, .int .u8 0, .bool false, .bool false, .int .u8 0, .slice A1 n1 c1] rfl rfl hR5 (by kernel_rfl) (by simp) rfl rfl ?_; intro w6 hZ6 hW6))
  obtain ⟨e1, e2, e3, e4, e5, e6, e7⟩ := hend w4 w6 (Wrote.refl dB w4) hne hW6
  refine ret_cell _ _ _ _ _ rfl rfl rfl hZ6 Try.underlying113 rfl (by kernel_rfl) rfl ?_
  unfold SayEnd
  rw [HQ.out, HOK.out]
  refine ⟨S1, A1, n1, c1, _, _, _, rfl, e1, e2, e3, e4, ?_, e5, by omega, e6, e7⟩
  rw [hW6.other dB (by omega)]
  rw [hD4]
  unfold Bus.dev
  rw [HF.out]
  simp [hdv]
 ·have hW5 : Wrote dB w4 (w4.setCell ⟨dB, 0, none⟩ .nilIface) := (Wrote.refl dB w4).setCell 0 _
  have hA5 := (hW5.other w1.heap.size (by omega)).trans hA4
  have hR5 := (hW5.other (w.heap.size + 1) (by omega)).trans hR4
  have hD5 := setCell_heap hD4 0 .nilIface
  have zd := cell_of hD4 0
  have fd := frozen_of hD4 0
  go_wp2_with (guard_target =~ wpList _ _ _ (_ :: _) _ _; first
   | refine wpList_load_row rfl (.tmp 7) 113 rfl w1.heap.size 113 _ _ rfl hA5 Try.underlying113 rfl (by kernel_rfl) ?_
   | (refine wpList_store_row rfl (.tmp 5) (.tmp 31) 113 rfl (w.heap.size + 1) 0 113 _ _ #[.int .u8 q.pid, .int .u8 q.addr, .int .u8 q.endp, .int .u16 0, .int .u8 0, .int .u8 0, .bool false, .bool false, .int .u8 0, .slice A1 n1 c1] rfl rfl hR5 (by kernel_rfl) (by simp) rfl rfl ?_; intro w6 hZ6 hW6))
  obtain ⟨e1, e2, e3, e4, e5, e6, e7⟩ := hend _ w6 hW5 hne hW6
  refine ret_cell _ _ _ _ _ rfl rfl rfl hZ6 Try.underlying113 rfl (by kernel_rfl) rfl ?_
  unfold SayEnd
  rw [HQ.out, HOK.out]
  refine ⟨S1, A1, n1, c1, _, _, _, rfl, e1, e2, e3, e4, ?_, e5, by omega, e6, e7⟩
  rw [hW6.other dB (by omega)]
  rw [hD5]
  unfold Bus.dev
  rw [HF.out]
  simp [hz, devV]
end Go.Proofs.Ythifcblajimppaa
