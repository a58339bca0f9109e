/-
  What is proved here: what transactions.in and out do and return.
  Conditions: what the boxes of Do hold; the device's and the wire's contracts.
-/
import Derived.Test.YthifcblajimppaaISay
namespace Go.Proofs.Ythifcblajimppaa
open Go.Proofs Go.RowKit
attribute [local go_sem] lt2 lt3 lt4 lt5
theorem Mx.weak {X Y S S' : Nat → Prop} {w w' : World} (h : Mx X S w S' w') (hx : ∀ i, X i → Y i) : Mx Y S w S' w' :=
 ⟨h.os, h.tape, h.output, h.size, fun i hi hs hy => h.block i hi hs (fun h' => hy (hx i h')), h.sub⟩
theorem Mx.trans {X S S' S'' : Nat → Prop} {a b c : World} (h : Mx X S a S' b) (k : Mx X S' b S'' c) : Mx X S a S'' c :=
 ⟨k.os.trans h.os, k.tape.trans h.tape, k.output.trans h.output, Nat.le_trans h.size k.size,
  fun i hi hs hx => (k.block i (Nat.lt_of_lt_of_le hi h.size) (fun h' => hs (h.sub i hi h')) hx).trans (h.block i hi hs hx),
  fun i hi h' => h.sub i hi (k.sub i (Nat.lt_of_lt_of_le hi h.size) h')⟩
theorem Mx.refl (X S : Nat → Prop) (w : World) : Mx X S w S w := ⟨rfl, rfl, rfl, Nat.le_refl _, fun _ _ _ _ => rfl, fun _ _ h => h⟩
theorem Mx.below {X S S' : Nat → Prop} {a b c : World} (h : Mx X S a S' b) (k : Below b.heap.size b c) : Mx X S a S' c :=
 h.trans ⟨k.os, k.tape, k.output, k.size, fun i hi _ _ => k.block i hi, fun _ _ h => h⟩
theorem Mx.wrote {X S S' : Nat → Prop} {a b c : World} {g : Nat} (h : Mx X S a S' b) (k : Wrote g b c) (hg : a.heap.size ≤ g) : Mx X S a S' c :=
 ⟨k.os.trans h.os, k.tape.trans h.tape, k.output.trans h.output, by rw [k.size]; exact h.size, fun i hi hs hx => (k.other i (by omega)).trans (h.block i hi hs hx), h.sub⟩
def hsV (pid : Int) (taken : Bool) : Int := if pid = 2 ∧ taken = true then 1 else if pid = 10 then 2 else if pid = 14 then 3 else 4
set_option maxHeartbeats 1000000 in
theorem hs_ret (pid : Int) (taken : Bool) (w : World) : Calls Try.prog 52 #[.int .u8 pid, .bool taken] w fun e w' => e = .returned (.int .u8 (hsV pid taken)) ∧ w' = w := by
 unfold hsV
 by_cases h2 : pid = 2
 ·subst h2
  cases taken
  all_goals
   go_enter Try.func52, Try.ntmps52
   go_wp2
   go_ret
   exact ⟨rfl, rfl⟩
 by_cases h10 : pid = 10
 ·subst h10
  go_enter Try.func52, Try.ntmps52
  go_wp2
  go_ret
  exact ⟨by simp, rfl⟩
 by_cases h14 : pid = 14
 ·subst h14
  go_enter Try.func52, Try.ntmps52
  go_wp2
  go_ret
  exact ⟨by simp, rfl⟩
 go_enter Try.func52, Try.ntmps52
 go_wp2
 go_ret
 exact ⟨by simp, rfl⟩
def Bus.trIn (M : Bus) (dev : Bool) (s : M.σ) (ad en : Int) (tg iso : Bool) (mx : Int) : (Int × List Int) × M.σ :=
 match (M.speak dev s ⟨9, ad, en, []⟩).1 with
 | none => ((4, []), (M.speak dev s ⟨9, ad, en, []⟩).2)
 | some q =>
  if q.pid ≠ 3 ∧ q.pid ≠ 11 then ((if iso then 4 else hsV q.pid false, []), (M.speak dev s ⟨9, ad, en, []⟩).2)
  else if mx < (q.data.length : Int) then ((5, []), (M.speak dev s ⟨9, ad, en, []⟩).2)
  else if iso then ((1, q.data), (M.speak dev s ⟨9, ad, en, []⟩).2)
  else (if decide (q.pid = 11) = tg then (1, q.data) else (6, []), (M.speak (M.dev dev s) (M.speak dev s ⟨9, ad, en, []⟩).2 ⟨2, 0, 0, []⟩).2)
def TrEnd (M : Bus) (r : (Int × List Int) × M.σ) (dB sB B : Nat) (w : World) (S : Nat → Prop) (e : Ending) (w' : World) : Prop :=
 ∃ S' A' n' c' sv' k' us', e = .returned (.agg #[.int .u8 r.1.1, .slice A' n' c']) ∧ M.I w' S' r.2 ∧ Mx (fun i => i = dB ∨ i = sB ∨ B ≤ i) S w S' w' ∧ D8 w' S' A' n' c' r.1.2 ∧ (n' = 0 ∨ ∃ a, A' = some a ∧ w.heap.size ≤ a.block ∧ sv'.ownBlock ≠ some a.block) ∧
  SentIn w' B sB sv' k' us' ∧ (∀ i, sv'.ownBlock = some i → ¬ S' i)
structure DoIn (M : Bus) (dev : Bool) (w : World) (S : Nat → Prop) (dB wB sB B1 B k : Nat) (sv : Value) (us : List Value) : Prop where
 hdB : w.heap[dB]? = some (.cells #[devV M dev] 106 (0, 0))
 hwB : w.heap[wB]? = some (.cells #[M.wv] 108 (0, 0))
 hsB : SentIn w B sB sv k us
 hds : ¬ S dB
 hws : ¬ S wB
 hss : ¬ S sB
 h0 : M.B0 ≤ B1
 h1d : B1 ≤ dB
 h1s : B1 ≤ sB
 hne : dB ≠ sB
 hnw : wB ≠ dB ∧ wB ≠ sB
 hdb : dB < B
 hsb : sB < B
 hwb : wB < B
 hBw : B ≤ w.heap.size
 hso : ∀ i, sv.ownBlock = some i → ¬ S i
theorem say_do (M : Bus) {dev : Bool} {w : World} {S : Nat → Prop} {dB wB sB B1 B k : Nat} {sv : Value} {us : List Value} (hk : k ≤ 20) (h : DoIn M dev w S dB wB sB B1 B k sv us) {p : Pk} {A : Option Addr} {n c : Nat} {s : M.σ}
  (hI : M.I w S s) (hd : D8 w S A n c p.data) (hn : n ≤ 1024) (hck : CkOk p) (hok : dev = true → M.Ok p ∧ M.room (M.nx s).2) (hans : ∀ s q, (M.hr s p).1 = some q → CkOk q ∧ q.data.length ≤ 1024) :
  Calls Try.prog 42 #[pkV p (.slice A n c), .pointer (some ⟨dB, 0, none⟩), .pointer (some ⟨wB, 0, none⟩), .pointer (some ⟨sB, 0, none⟩)] w fun e w' =>
   ∃ S' A' n' c' sv' k' us', e = .returned (.tuple #[pkV ((M.speak dev s p).1.getD pk0) (.slice A' n' c'), .bool (M.speak dev s p).1.isSome]) ∧ M.I w' S' (M.speak dev s p).2 ∧ Mx (fun i => i = dB ∨ i = sB ∨ sv.ownBlock = some i) S w S' w' ∧
    D8 w' S' A' n' c' ((M.speak dev s p).1.getD pk0).data ∧ (n' = 0 ∨ ∃ a, A' = some a ∧ w.heap.size ≤ a.block ∧ sv'.ownBlock ≠ some a.block) ∧ DoIn M (M.dev dev s) w' S' dB wB sB B1 B k' sv' us' ∧ k' ≤ k + 2 ∧ (∀ i, sv'.ownBlock = some i → sv.ownBlock = some i ∨ w.heap.size ≤ i) := by
 have hge := own_ge h.hsB.2
 have hwl := (Array.getElem?_eq_some_iff.1 h.hwB).1
 have hdl := (Array.getElem?_eq_some_iff.1 h.hdB).1
 have hsl := (Array.getElem?_eq_some_iff.1 h.hsB.1).1
 refine (say_ret M dev p A n c w S s dB wB sB B k sv us hI hd hn hck hok hans h.hdB h.hwB h.hsB hk h.hds h.hss (Nat.le_trans h.h0 h.h1d) (Nat.le_trans h.h0 h.h1s) h.hne h.hdb h.hsb h.hBw h.hso).mono ?_
 rintro e w' ⟨S', A', n', c', sv', k', us', rfl, hI', hx, hd', hf', hdB', hs', hk', hso', hoo⟩
 refine ⟨S', A', n', c', sv', k', us', rfl, hI', hx, hd', hf', ⟨hdB', hx.heap h.hwB h.hws ?_, hs', hx.out hdl h.hds, hx.out hwl h.hws, hx.out hsl h.hss, h.h0, h.h1d, h.h1s, h.hne, h.hnw, h.hdb, h.hsb, h.hwb, Nat.le_trans h.hBw hx.size, hso'⟩, hk', hoo⟩
 ·rintro (hi | hi | hi)
  ·exact h.hnw.1 hi
  ·exact h.hnw.2 hi
  ·have := hge _ hi; have := h.hwb; omega
theorem DoIn.old {M : Bus} {dev : Bool} {w : World} {S : Nat → Prop} {dB wB sB B1 B k : Nat} {sv : Value} {us : List Value} (h : DoIn M dev w S dB wB sB B1 B k sv us) : ∀ i, (i = dB ∨ i = sB ∨ sv.ownBlock = some i) → (i = dB ∨ i = sB ∨ B ≤ i) := fun i hi => hi.imp id (fun h' => h'.imp id (fun e => own_ge h.hsB.2 i e))
theorem DoIn.lt {M : Bus} {dev : Bool} {w : World} {S : Nat → Prop} {dB wB sB B1 B k : Nat} {sv : Value} {us : List Value} (h : DoIn M dev w S dB wB sB B1 B k sv us) : ∀ i, (i = dB ∨ i = sB ∨ sv.ownBlock = some i) → i < w.heap.size := by
 rintro i (rfl | rfl | hi)
 ·exact (Array.getElem?_eq_some_iff.1 h.hdB).1
 ·exact (Array.getElem?_eq_some_iff.1 h.hsB.1).1
 ·exact own_lt h.hsB.2 i hi
theorem DoIn.below {M : Bus} {dev : Bool} {w w' : World} {S : Nat → Prop} {dB wB sB B1 B k : Nat} {sv : Value} {us : List Value} (h : DoIn M dev w S dB wB sB B1 B k sv us) (hb : Below w.heap.size w w') : DoIn M dev w' S dB wB sB B1 B k sv us :=
 ⟨heap_below h.hdB hb, heap_below h.hwB hb, ⟨heap_below h.hsB.1 hb, own_below h.hsB.2 hb⟩, h.hds, h.hws, h.hss, h.h0, h.h1d, h.h1s, h.hne, h.hnw, h.hdb, h.hsb, h.hwb, Nat.le_trans h.hBw hb.size, h.hso⟩
theorem D8.lt {w : World} {S : Nat → Prop} {a : Addr} {n c : Nat} {xs : List Int} (h : D8 w S (some a) n c xs) (hn : 0 < n) : a.block < w.heap.size := by
 obtain ⟨⟨h1, h2, h3, h4⟩, h5⟩ := h
 rcases h4 with ⟨h4, _⟩ | ⟨a', e, h4⟩
 ·cases h4
 cases e
 have := World.block_lt_of_cell? _ _ (h4 0 hn)
 rwa [show (a.add 0) = a by simp [Addr.add]] at this
theorem tr_end {M : Bus} {dv : Bool} {r : (Int × List Int) × M.σ} {w w2 w3 : World} {S S2 : Nat → Prop} {dB wB sB B1 B k n c : Nat} {A : Option Addr} {sv : Value} {us : List Value} {cs : Array Value} {o : Int} {d : List Int} {s2 : M.σ} (hr : r = ((o, d), s2))
  (hI : M.I w2 S2 s2) (hx : Mx (fun i => i = dB ∨ i = sB ∨ B ≤ i) S w S2 w2) (hd : D8 w2 S2 A n c d) (hf : n = 0 ∨ ∃ a, A = some a ∧ w.heap.size + 2 ≤ a.block ∧ sv.ownBlock ≠ some a.block)
  (hin : DoIn M dv w2 S2 dB wB sB B1 B k sv us) (hY : w2.heap[w.heap.size + 1]? = some (.cells cs 77 (0, 0))) (hW : Wrote (w.heap.size + 1) w2 w3) (hs : ¬ S2 (w.heap.size + 1)) (hB : B ≤ w.heap.size) :
  TrEnd M r dB sB B w S (.returned (.agg #[.int .u8 o, .slice A n c])) w3 := by
 subst hr
 have h1 := hin.h0
 have h2 := hin.h1d
 have h3 := hin.hdb
 have h4 := hin.hsb
 refine ⟨S2, A, n, c, sv, k, us, rfl, Bus.wrote hI hW (by omega) hs, hx.wrote hW (by omega), ⟨hd.1.wrote hW (hf.imp id fun ⟨a, e, h, _⟩ => ⟨a, e, by omega⟩), hd.2⟩, hf.imp id fun ⟨a, e, h, h'⟩ => ⟨a, e, by omega, h'⟩, ⟨(hW.other sB (by omega)).trans hin.hsB.1, own_wr hin.hsB.2 hW (fun i hi e => ?_)⟩, hin.hso⟩
 exact own_type hin.hsB.2 hY (by decide) (by rw [hi, e])
set_option maxHeartbeats 4000000 in
set_option maxRecDepth 1000000 in
theorem in_ret (M : Bus) {dev : Bool} {w : World} {S : Nat → Prop} {dB wB sB B1 B k : Nat} {sv : Value} {us : List Value} (hk : k ≤ 10) (h : DoIn M dev w S dB wB sB B1 B k sv us) {s : M.σ} (ad en : Int) (tg iso : Bool) (mx : Int) (A : Option Addr) (n c : Nat)
  (hI : M.I w S s) (_hmx : mx ≤ 1024) (hck : CkOk ⟨9, ad, en, []⟩) (hok : dev = true → M.Ok ⟨9, ad, en, []⟩ ∧ M.room (M.nx s).2) (hck2 : CkOk ⟨2, 0, 0, []⟩) (hok2 : iso = false → M.dev dev s = true → M.Ok ⟨2, 0, 0, []⟩ ∧ M.room (M.nx (M.speak dev s ⟨9, ad, en, []⟩).2).2) (hans : ∀ p s q, (M.hr s p).1 = some q → CkOk q ∧ q.data.length ≤ 1024) :
  Calls Try.prog 44 #[.func (.func 42) #[] #[.pointer (some ⟨dB, 0, none⟩), .pointer (some ⟨wB, 0, none⟩), .pointer (some ⟨sB, 0, none⟩)],
   .agg #[.int .u8 ad, .int .u8 en, .int .u8 9, .bool tg, .bool iso, .int .i64 mx, .slice A n c]] w (TrEnd M (M.trIn dev s ad en tg iso mx) dB sB B w S) := by
 have hb2 : ∀ a b, Below w.heap.size w ((w.alloc a).alloc b) := fun a b => ((Below.refl w.heap.size w).alloc (Nat.le_refl _) a).alloc (by simp) b
 have hbp := hb2 (.cells #[.int .u8 ad, .int .u8 en, .int .u8 9, .bool tg, .bool iso, .int .i64 mx, .slice A n c] 83) (.cells #[.int .u8 0, .slice none 0 0] 77)
 have hX0 := alloc2_0 w (.cells #[.int .u8 ad, .int .u8 en, .int .u8 9, .bool tg, .bool iso, .int .i64 mx, .slice A n c] 83) (.cells #[.int .u8 0, .slice none 0 0] 77)
 have hX1 := alloc2_1 w (.cells #[.int .u8 ad, .int .u8 en, .int .u8 9, .bool tg, .bool iso, .int .i64 mx, .slice A n c] 83) (.cells #[.int .u8 0, .slice none 0 0] 77)
 have hsay := say_do M (by omega) (h.below hbp) (p := ⟨9, ad, en, []⟩) (A := none) (n := 0) (c := 0) (Bus.below hI hbp) (D8.nil _ _) (by omega) hck hok (hans _)
 simp only [pkV] at hsay
 go_enter Try.func44, Try.ntmps44
 go_wp2_with fail
 refine hsay.mono ?_
 clear hsay
 rintro e w1 ⟨S1, A1, n1, c1, sv1, k1, us1, rfl, hI1, hx1, hd1, hf1, h1, hk1, _⟩
 have hXl : ∀ i, (i = dB ∨ i = sB ∨ sv.ownBlock = some i) → i < w.heap.size := h.lt
 have hX0 := hx1.heap hX0 (Bus.new hI (Nat.le_refl _)) (fun hi => by have := hXl _ hi; omega)
 have hX1 := hx1.heap hX1 (Bus.new hI (Nat.le_succ _)) (fun hi => by have := hXl _ hi; omega)
 have hr1 : ¬ S1 (w.heap.size + 1) := hx1.out (by simp) (Bus.new hI (Nat.le_succ _))
 have hr0 : ¬ S1 w.heap.size := hx1.out (by simp; omega) (Bus.new hI (Nat.le_refl _))
 have hxx : Mx (fun i => i = dB ∨ i = sB ∨ B ≤ i) S w S1 w1 := ((Mx.refl _ S w).below hbp).trans (hx1.weak h.old)
 obtain ⟨an, han⟩ : ∃ an, (M.speak dev s ⟨9, ad, en, []⟩).1 = an := ⟨_, rfl⟩
 rw [han] at hd1 ⊢
 have HA := Lib.hid han
 clear han hx1
 cases an with
 | none =>
  have hba := (Below.refl _ w1).alloc (Nat.le_refl _) (.cells #[.int .u8 0, .int .u8 0, .int .u8 0, .int .u16 0, .int .u8 0, .int .u8 0, .bool false, .bool false, .int .u8 0, .slice A1 n1 c1] 113)
  have hY1 := heap_below hX1 hba
  simp only [Option.getD_none, Option.isSome_none, pk0]
  go_upto_region 3 with fail
  go_wp2_with (guard_target =~ wpList _ _ _ (_ :: _) _ _; (refine wpList_store_row rfl (.tmp 4) (.tmp 19) 77 rfl (w.heap.size + 1) 0 77 _ _ #[.int .u8 4, .slice none 0 0] rfl rfl hY1 (by kernel_rfl) (by simp) rfl rfl ?_; intro w3 hZ3 hW3))
  refine ret_one _ _ _ _ rfl rfl hZ3 Try.underlying77 rfl (by kernel_rfl) rfl ?_
  exact tr_end (by unfold Bus.trIn; rw [HA.out]) (Bus.below hI1 hba) (hxx.below hba) (D8.nil _ _) (.inl rfl) (h1.below hba) hY1 hW3 hr1 h.hBw
 | some q =>
  obtain ⟨pid, qa, qe, qd⟩ := q
  simp only [Option.getD_some, Option.isSome_some] at hd1 ⊢
  have hba := (Below.refl _ w1).alloc (Nat.le_refl _) (.cells #[.int .u8 pid, .int .u8 qa, .int .u8 qe, .int .u16 0, .int .u8 0, .int .u8 0, .bool false, .bool false, .int .u8 0, .slice A1 n1 c1] 113)
  have hA2 := heap_alloc_new w1 (.cells #[.int .u8 pid, .int .u8 qa, .int .u8 qe, .int .u16 0, .int .u8 0, .int .u8 0, .bool false, .bool false, .int .u8 0, .slice A1 n1 c1] 113)
  have hf2 : n1 = 0 ∨ ∃ a, A1 = some a ∧ w.heap.size + 2 ≤ a.block ∧ sv1.ownBlock ≠ some a.block := hf1.imp id fun ⟨a, e, h1, h2⟩ => ⟨a, e, by simpa using h1, h2⟩
  have hn1 := hd1.1.1
  go_upto_region 4 with fail
  obtain ⟨w2, hw2⟩ : ∃ w2, w1.alloc (.cells #[.int .u8 pid, .int .u8 qa, .int .u8 qe, .int .u16 0, .int .u8 0, .int .u8 0, .bool false, .bool false, .int .u8 0, .slice A1 n1 c1] 113) = w2 := ⟨_, rfl⟩
  rw [hw2] at hba hA2 ⊢
  have hsz2 : w2.heap.size = w1.heap.size + 1 := by rw [← hw2]; simp
  clear hw2
  have hY0 := heap_below hX0 hba
  have hY1 := heap_below hX1 hba
  have hI2 := Bus.below hI1 hba
  have hd2 := hd1.below hba
  have h2 := h1.below hba
  have hx2 := hxx.below hba
  have hnX : ∀ g cs t', w1.heap[g]? = some (.cells cs t' (0, 0)) → t' ≠ 118 → w.heap.size ≤ g → ¬ (g = dB ∨ g = sB ∨ sv1.ownBlock = some g) := by
   intro g cs t' hg ht hle
   have := h.hdb
   have := h.hsb
   have := h.hBw
   rintro (e | e | e)
   ·omega
   ·omega
   ·exact own_type h1.hsB.2 hg ht e
  have hnx0 := hnX _ _ _ hX0 (by decide) (Nat.le_refl _)
  have hnx1 := hnX _ _ _ hX1 (by decide) (Nat.le_succ _)
  clear hX0 hX1 hnX
  have a0 := cell_of hA2 0
  have a9 := cell_of hA2 9
  have t3 := cell_of hY0 3
  have t4 := cell_of hY0 4
  have t5 := cell_of hY0 5
  by_cases hp : pid ≠ 3 ∧ pid ≠ 11
  ·obtain ⟨hp3, hp11⟩ := hp
   have e3 : (pid != 3) = true := by simpa using hp3
   have e11 : (pid != 11) = true := by simpa using hp11
   cases iso
   ·go_upto_region 7 with fail
    go_wp2_with fail
    refine (hs_ret pid false w2).mono ?_
    rintro e w2' ⟨rfl, rfl⟩
    go_wp2_with (guard_target =~ wpList _ _ _ (_ :: _) _ _; (refine wpList_store_row rfl (.tmp 4) (.tmp 34) 77 rfl (w.heap.size + 1) 0 77 _ _ #[.int .u8 (hsV pid false), .slice none 0 0] rfl rfl hY1 (by kernel_rfl) (by simp) rfl rfl ?_; intro w3 hZ3 hW3))
    refine ret_one _ _ _ _ rfl rfl hZ3 Try.underlying77 rfl (by kernel_rfl) rfl ?_
    exact tr_end (by unfold Bus.trIn; rw [HA.out]; simp [hp3, hp11]) hI2 hx2 (D8.nil _ _) (.inl rfl) h2 hY1 hW3 hr1 h.hBw
   ·go_upto_region 6 with fail
    go_wp2_with (guard_target =~ wpList _ _ _ (_ :: _) _ _; (refine wpList_store_row rfl (.tmp 4) (.tmp 30) 77 rfl (w.heap.size + 1) 0 77 _ _ #[.int .u8 4, .slice none 0 0] rfl rfl hY1 (by kernel_rfl) (by simp) rfl rfl ?_; intro w3 hZ3 hW3))
    refine ret_one _ _ _ _ rfl rfl hZ3 Try.underlying77 rfl (by kernel_rfl) rfl ?_
    exact tr_end (by unfold Bus.trIn; rw [HA.out]; simp [hp3, hp11]) hI2 hx2 (D8.nil _ _) (.inl rfl) h2 hY1 hW3 hr1 h.hBw
  ·have hpp : pid = 3 ∨ pid = 11 := by omega
   rcases hpp with rfl | rfl
   all_goals
    by_cases hl : mx < (n1 : Int)
    ·go_upto_region 9 with fail
     go_wp2_with (guard_target =~ wpList _ _ _ (_ :: _) _ _; (refine wpList_store_row rfl (.tmp 4) (.tmp 42) 77 rfl (w.heap.size + 1) 0 77 _ _ #[.int .u8 5, .slice none 0 0] rfl rfl hY1 (by kernel_rfl) (by simp) rfl rfl ?_; intro w3 hZ3 hW3))
     refine ret_one _ _ _ _ rfl rfl hZ3 Try.underlying77 rfl (by kernel_rfl) rfl ?_
     exact tr_end (by unfold Bus.trIn; rw [HA.out]; simp [hn1, hl]) hI2 hx2 (D8.nil _ _) (.inl rfl) h2 hY1 hW3 hr1 h.hBw
    ·cases iso
     ·have hsay := say_do M (by omega) h2 (p := ⟨2, 0, 0, []⟩) (A := none) (n := 0) (c := 0) hI2 (D8.nil _ _) (by omega) hck2 (hok2 rfl) (hans ⟨2, 0, 0, []⟩)
      simp only [pkV] at hsay
      go_upto_region 12 with fail
      go_wp2_with fail
      refine hsay.mono ?_
      clear hsay a0 a9 t3 t4 t5
      rintro e w4 ⟨S4, A4, n4, c4, sv4, k4, us4, rfl, hI4, hx4, _, _, h4, _, ho4⟩
      have hA4 := hx4.heap hA2 (Bus.new hI1 (Nat.le_refl _)) (fun hi => by have := h1.lt _ hi; omega)
      have hY04 := hx4.heap hY0 hr0 hnx0
      have hY14 := hx4.heap hY1 hr1 hnx1
      have hr4 := hx4.out (Array.getElem?_eq_some_iff.1 hY1).1 hr1
      have hd4 := D8.mx hd2 hx4 (hf2.imp id fun ⟨a, e, ha, ho⟩ => ⟨a, e, fun hx => by have := h.hdb; have := h.hsb; have := h.hBw; rcases hx with hx | hx | hx; omega; omega; exact ho hx⟩)
      have hf4 : n1 = 0 ∨ ∃ a, A1 = some a ∧ w.heap.size + 2 ≤ a.block ∧ sv4.ownBlock ≠ some a.block := by
       rcases Nat.eq_zero_or_pos n1 with h0 | h0
       ·exact .inl h0
       rcases hf2 with h0 | ⟨a, rfl, ha, ho⟩
       ·exact .inl h0
       exact .inr ⟨a, rfl, ha, fun e => by
        rcases ho4 _ e with h | h
        ·exact ho h
        ·have := hd2.lt h0; omega⟩
      have hx24 := hx2.trans (hx4.weak h1.old)
      have a0 := cell_of hA4 0
      have a9 := cell_of hA4 9
      have t3 := cell_of hY04 3
      cases tg
      all_goals
       go_wp2_with (first
        | (guard_target =~ wpList _ _ _ (_ :: _) _ _; (refine wpList_store_row rfl (.tmp 4) (.tmp 58) 77 rfl (w.heap.size + 1) 0 77 _ _ #[.int .u8 6, .slice none 0 0] rfl rfl hY14 (by kernel_rfl) (by simp) rfl rfl ?_; intro w5 hZ5 hW5))
        | (guard_target =~ wpList _ _ _ (_ :: _) _ _; (refine wpList_store_row rfl (.tmp 4) (.tmp 61) 77 rfl (w.heap.size + 1) 0 77 _ _ #[.int .u8 1, .slice A1 n1 c1] rfl rfl hY14 (by kernel_rfl) (by simp) rfl rfl ?_; intro w5 hZ5 hW5)))
       refine ret_one _ _ _ _ rfl rfl hZ5 Try.underlying77 rfl (by kernel_rfl) rfl ?_
       first
        | exact tr_end (by unfold Bus.trIn; rw [HA.out]; simp [hn1, hl]) hI4 hx24 hd4 hf4 h4 hY14 hW5 hr4 h.hBw
        | exact tr_end (by unfold Bus.trIn; rw [HA.out]; simp [hn1, hl]) hI4 hx24 (D8.nil _ _) (.inl rfl) h4 hY14 hW5 hr4 h.hBw
     ·go_upto_region 11 with fail
      go_wp2_with (guard_target =~ wpList _ _ _ (_ :: _) _ _; (refine wpList_store_row rfl (.tmp 4) (.tmp 48) 77 rfl (w.heap.size + 1) 0 77 _ _ #[.int .u8 1, .slice A1 n1 c1] rfl rfl hY1 (by kernel_rfl) (by simp) rfl rfl ?_; intro w3 hZ3 hW3))
      refine ret_one _ _ _ _ rfl rfl hZ3 Try.underlying77 rfl (by kernel_rfl) rfl ?_
      exact tr_end (by unfold Bus.trIn; rw [HA.out]; simp [hn1, hl]) hI2 hx2 hd2 hf2 h2 hY1 hW3 hr1 h.hBw
end Go.Proofs.Ythifcblajimppaa
