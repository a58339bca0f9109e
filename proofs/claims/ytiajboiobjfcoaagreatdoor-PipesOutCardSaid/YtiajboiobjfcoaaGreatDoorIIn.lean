/-
  What is proved here: what transactions.in and out do and return.
  Conditions: what the boxes of Do hold; the device's and the wire's contracts.
-/
import Derived.Test.YtiajboiobjfcoaaGreatDoorISay
namespace Go.Proofs.YtiajboiobjfcoaaGreatDoor
open Go.Proofs Go.RowKit
attribute [local go_sem] lt2 lt3 lt4 lt5
theorem Mx.weak {X Y S S' : Nat → Prop} {w w' : World} (h : Mx X S w S' w') (hx : ∀ i, X i → Y i) : Mx Y S w S' w' :=
 ⟨h.os, h.tape, h.output, h.size, fun i hi hs hy => h.block i hi hs (fun h' => hy (hx i h')), h.sub⟩
theorem Mx.trans {X S S' S'' : Nat → Prop} {a b c : World} (h : Mx X S a S' b) (k : Mx X S' b S'' c) : Mx X S a S'' c :=
 ⟨k.os.trans h.os, k.tape.trans h.tape, k.output.trans h.output, Nat.le_trans h.size k.size,
  fun i hi hs hx => (k.block i (Nat.lt_of_lt_of_le hi h.size) (fun h' => hs (h.sub i hi h')) hx).trans (h.block i hi hs hx),
  fun i hi h' => h.sub i hi (k.sub i (Nat.lt_of_lt_of_le hi h.size) h')⟩
theorem Mx.refl (X S : Nat → Prop) (w : World) : Mx X S w S w := ⟨rfl, rfl, rfl, Nat.le_refl _, fun _ _ _ _ => rfl, fun _ _ h => h⟩
theorem Mx.below {X S S' : Nat → Prop} {a b c : World} (h : Mx X S a S' b) (k : Below b.heap.size b c) : Mx X S a S' c :=
 h.trans ⟨k.os, k.tape, k.output, k.size, fun i hi _ _ => k.block i hi, fun _ _ h => h⟩
theorem Mx.wrote {X S S' : Nat → Prop} {a b c : World} {g : Nat} (h : Mx X S a S' b) (k : Wrote g b c) (hg : a.heap.size ≤ g) : Mx X S a S' c :=
 ⟨k.os.trans h.os, k.tape.trans h.tape, k.output.trans h.output, by rw [k.size]; exact h.size, fun i hi hs hx => (k.other i (by omega)).trans (h.block i hi hs hx), h.sub⟩
def hsV (pid : Int) (taken : Bool) : Int := if pid = 2 ∧ taken = true then 1 else if pid = 10 then 2 else if pid = 14 then 3 else 4
set_option maxHeartbeats 1000000 in
theorem hs_ret (pid : Int) (taken : Bool) (w : World) : Calls Tryz.prog 84 #[.int .u8 pid, .bool taken] w fun e w' => e = .returned (.int .u8 (hsV pid taken)) ∧ w' = w := by
 unfold hsV
 by_cases h2 : pid = 2
 ·subst h2
  cases taken
  all_goals
   go_enter Tryz.func84, Tryz.ntmps84
   go_wp2
   go_ret
   exact ⟨rfl, rfl⟩
 by_cases h10 : pid = 10
 ·subst h10
  go_enter Tryz.func84, Tryz.ntmps84
  go_wp2
  go_ret
  exact ⟨by simp, rfl⟩
 by_cases h14 : pid = 14
 ·subst h14
  go_enter Tryz.func84, Tryz.ntmps84
  go_wp2
  go_ret
  exact ⟨by simp, rfl⟩
 go_enter Tryz.func84, Tryz.ntmps84
 go_wp2
 go_ret
 exact ⟨by simp, rfl⟩
def TrEnd (M : Bus) (r : (Int × List Int) × M.σ) (dB sB B : Nat) (w : World) (S : Nat → Prop) (e : Ending) (w' : World) : Prop :=
 ∃ S' A' n' c' sv' k' us', e = .returned (.agg #[.int .u8 r.1.1, .slice A' n' c']) ∧ M.I w' S' r.2 ∧ Mx (fun i => i = dB ∨ i = sB ∨ B ≤ i) S w S' w' ∧ D8 w' S' A' n' c' r.1.2 ∧ (n' = 0 ∨ ∃ a, A' = some a ∧ w.heap.size ≤ a.block ∧ sv'.ownBlock ≠ some a.block) ∧
  SentIn w' B sB sv' k' us' ∧ (∀ i, sv'.ownBlock = some i → ¬ S' i)
structure DoIn (M : Bus) (dev : Bool) (w : World) (S : Nat → Prop) (dB wB sB B1 B k : Nat) (sv : Value) (us : List Value) : Prop where
 hdB : w.heap[dB]? = some (.cells #[devV M dev] 102 (0, 0))
 hwB : w.heap[wB]? = some (.cells #[M.wv] 104 (0, 0))
 hsB : SentIn w B sB sv k us
 hds : ¬ S dB
 hws : ¬ S wB
 hss : ¬ S sB
 h0 : M.B0 ≤ B1
 h1d : B1 ≤ dB
 h1s : B1 ≤ sB
 hne : dB ≠ sB
 hnw : wB ≠ dB ∧ wB ≠ sB
 hdb : dB < B
 hsb : sB < B
 hwb : wB < B
 hBw : B ≤ w.heap.size
 hso : ∀ i, sv.ownBlock = some i → ¬ S i
theorem say_do (M : Bus) {dev : Bool} {w : World} {S : Nat → Prop} {dB wB sB B1 B k : Nat} {sv : Value} {us : List Value} (hk : k ≤ 20) (h : DoIn M dev w S dB wB sB B1 B k sv us) {p : Pk} {A : Option Addr} {n c : Nat} {s : M.σ}
  (hI : M.I w S s) (hd : D8 w S A n c p.data) (hn : n ≤ 1024) (hck : CkOk p) (hok : dev = true → M.Ok p ∧ M.room (M.nx s).2) (hans : ∀ s q, (M.hr s p).1 = some q → CkOk q ∧ q.data.length ≤ 1024) :
  Calls Tryz.prog 58 #[pkV p (.slice A n c), .pointer (some ⟨dB, 0, none⟩), .pointer (some ⟨wB, 0, none⟩), .pointer (some ⟨sB, 0, none⟩)] w fun e w' =>
   ∃ S' A' n' c' sv' k' us', e = .returned (.tuple #[pkV ((M.speak dev s p).1.getD pk0) (.slice A' n' c'), .bool (M.speak dev s p).1.isSome]) ∧ M.I w' S' (M.speak dev s p).2 ∧ Mx (fun i => i = dB ∨ i = sB ∨ sv.ownBlock = some i) S w S' w' ∧
    D8 w' S' A' n' c' ((M.speak dev s p).1.getD pk0).data ∧ (n' = 0 ∨ ∃ a, A' = some a ∧ w.heap.size ≤ a.block ∧ sv'.ownBlock ≠ some a.block) ∧ DoIn M (M.dev dev s) w' S' dB wB sB B1 B k' sv' us' ∧ k' ≤ k + 2 ∧ (∀ i, sv'.ownBlock = some i → sv.ownBlock = some i ∨ w.heap.size ≤ i) := by
 have hge := own_ge h.hsB.2
 have hwl := (Array.getElem?_eq_some_iff.1 h.hwB).1
 have hdl := (Array.getElem?_eq_some_iff.1 h.hdB).1
 have hsl := (Array.getElem?_eq_some_iff.1 h.hsB.1).1
 refine (say_ret M dev p A n c w S s dB wB sB B k sv us hI hd hn hck hok hans h.hdB h.hwB h.hsB hk h.hds h.hss (Nat.le_trans h.h0 h.h1d) (Nat.le_trans h.h0 h.h1s) h.hne h.hdb h.hsb h.hBw h.hso).mono ?_
 rintro e w' ⟨S', A', n', c', sv', k', us', rfl, hI', hx, hd', hf', hdB', hs', hk', hso', hoo⟩
 refine ⟨S', A', n', c', sv', k', us', rfl, hI', hx, hd', hf', ⟨hdB', hx.heap h.hwB h.hws ?_, hs', hx.out hdl h.hds, hx.out hwl h.hws, hx.out hsl h.hss, h.h0, h.h1d, h.h1s, h.hne, h.hnw, h.hdb, h.hsb, h.hwb, Nat.le_trans h.hBw hx.size, hso'⟩, hk', hoo⟩
 ·rintro (hi | hi | hi)
  ·exact h.hnw.1 hi
  ·exact h.hnw.2 hi
  ·have := hge _ hi; have := h.hwb; omega
theorem DoIn.old {M : Bus} {dev : Bool} {w : World} {S : Nat → Prop} {dB wB sB B1 B k : Nat} {sv : Value} {us : List Value} (h : DoIn M dev w S dB wB sB B1 B k sv us) : ∀ i, (i = dB ∨ i = sB ∨ sv.ownBlock = some i) → (i = dB ∨ i = sB ∨ B ≤ i) := fun i hi => hi.imp id (fun h' => h'.imp id (fun e => own_ge h.hsB.2 i e))
theorem DoIn.lt {M : Bus} {dev : Bool} {w : World} {S : Nat → Prop} {dB wB sB B1 B k : Nat} {sv : Value} {us : List Value} (h : DoIn M dev w S dB wB sB B1 B k sv us) : ∀ i, (i = dB ∨ i = sB ∨ sv.ownBlock = some i) → i < w.heap.size := by
 rintro i (rfl | rfl | hi)
 ·exact (Array.getElem?_eq_some_iff.1 h.hdB).1
 ·exact (Array.getElem?_eq_some_iff.1 h.hsB.1).1
 ·exact own_lt h.hsB.2 i hi
theorem DoIn.below {M : Bus} {dev : Bool} {w w' : World} {S : Nat → Prop} {dB wB sB B1 B k : Nat} {sv : Value} {us : List Value} (h : DoIn M dev w S dB wB sB B1 B k sv us) (hb : Below w.heap.size w w') : DoIn M dev w' S dB wB sB B1 B k sv us :=
 ⟨heap_below h.hdB hb, heap_below h.hwB hb, ⟨heap_below h.hsB.1 hb, own_below h.hsB.2 hb⟩, h.hds, h.hws, h.hss, h.h0, h.h1d, h.h1s, h.hne, h.hnw, h.hdb, h.hsb, h.hwb, Nat.le_trans h.hBw hb.size, h.hso⟩
theorem D8.lt {w : World} {S : Nat → Prop} {a : Addr} {n c : Nat} {xs : List Int} (h : D8 w S (some a) n c xs) (hn : 0 < n) : a.block < w.heap.size := by
 obtain ⟨⟨h1, h2, h3, h4⟩, h5⟩ := h
 rcases h4 with ⟨h4, _⟩ | ⟨a', e, h4⟩
 ·cases h4
 cases e
 have := World.block_lt_of_cell? _ _ (h4 0 hn)
 rwa [show (a.add 0) = a by simp [Addr.add]] at this
theorem tr_end {M : Bus} {dv : Bool} {r : (Int × List Int) × M.σ} {w w2 w3 : World} {S S2 : Nat → Prop} {dB wB sB B1 B k n c : Nat} {A : Option Addr} {sv : Value} {us : List Value} {cs : Array Value} {o : Int} {d : List Int} {s2 : M.σ} (hr : r = ((o, d), s2))
  (hI : M.I w2 S2 s2) (hx : Mx (fun i => i = dB ∨ i = sB ∨ B ≤ i) S w S2 w2) (hd : D8 w2 S2 A n c d) (hf : n = 0 ∨ ∃ a, A = some a ∧ w.heap.size + 2 ≤ a.block ∧ sv.ownBlock ≠ some a.block)
  (hin : DoIn M dv w2 S2 dB wB sB B1 B k sv us) (hY : w2.heap[w.heap.size + 1]? = some (.cells cs 86 (0, 0))) (hW : Wrote (w.heap.size + 1) w2 w3) (hs : ¬ S2 (w.heap.size + 1)) (hB : B ≤ w.heap.size) :
  TrEnd M r dB sB B w S (.returned (.agg #[.int .u8 o, .slice A n c])) w3 := by
 subst hr
 have h1 := hin.h0
 have h2 := hin.h1d
 have h3 := hin.hdb
 have h4 := hin.hsb
 refine ⟨S2, A, n, c, sv, k, us, rfl, Bus.wrote hI hW (by omega) hs, hx.wrote hW (by omega), ⟨hd.1.wrote hW (hf.imp id fun ⟨a, e, h, _⟩ => ⟨a, e, by omega⟩), hd.2⟩, hf.imp id fun ⟨a, e, h, h'⟩ => ⟨a, e, by omega, h'⟩, ⟨(hW.other sB (by omega)).trans hin.hsB.1, own_wr hin.hsB.2 hW (fun i hi e => ?_)⟩, hin.hso⟩
 exact own_type hin.hsB.2 hY (by decide) (by rw [hi, e])
end Go.Proofs.YtiajboiobjfcoaaGreatDoor
