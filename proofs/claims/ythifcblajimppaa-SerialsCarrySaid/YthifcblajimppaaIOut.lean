/-
  What is proved here: what transactions.out does and returns for Out.
  Conditions: what the boxes of Do hold; the device's and the wire's contracts.
-/
import Derived.Test.YthifcblajimppaaIIn
namespace Go.Proofs.Ythifcblajimppaa
open Go.Proofs Go.RowKit
attribute [local go_sem] lt2 lt3 lt4 lt5
def dataPk (tg : Bool) (xs : List Int) : Pk := ⟨if tg then 11 else 3, 0, 0, xs⟩
set_option maxHeartbeats 1000000 in
set_option maxRecDepth 1000000 in
theorem data_ret (tg : Bool) (xs : List Int) (A : Option Addr) (n c : Nat) (w : World) :
  Calls Try.prog 53 #[.bool tg, .slice A n c] w fun e w' => e = .returned (pkV (dataPk tg xs) (.slice A n c)) ∧ Below w.heap.size w w' := by
 unfold pkV dataPk
 have hb : ∀ o, Below w.heap.size w (w.alloc o) := fun o => (Below.refl w.heap.size w).alloc (Nat.le_refl _) o
 cases tg
 all_goals
  go_enter Try.func53, Try.ntmps53
  go_wp2_with fail
  exact ret_one _ _ _ _ rfl rfl (heap_alloc_new w _) Try.underlying113 rfl (by kernel_rfl) rfl ⟨rfl, hb _⟩
def Bus.trOut (M : Bus) (dev : Bool) (s : M.σ) (ad en : Int) (tg iso : Bool) (xs : List Int) : Int × M.σ :=
  (if iso then 1 else match (M.speak (M.dev dev s) (M.speak dev s ⟨1, ad, en, []⟩).2 (dataPk tg xs)).1 with
    | none => 4
    | some q => hsV q.pid true,
   (M.speak (M.dev dev s) (M.speak dev s ⟨1, ad, en, []⟩).2 (dataPk tg xs)).2)
def OverW (M : Bus) (r : Int × M.σ) (B1 dB wB sB B : Nat) (w : World) (S : Nat → Prop) (res : Int) (wx : World) : Prop :=
 res = r.1 ∧ ∃ dv S4 sv4 k4 us4, M.I wx S4 r.2 ∧ Mx (fun i => i = dB ∨ i = sB ∨ B ≤ i) S w S4 wx ∧ DoIn M dv wx S4 dB wB sB B1 B k4 sv4 us4 ∧ wx.heap[w.heap.size + 1]? = some (.cells #[.int .u8 0, .slice none 0 0] 77 (0, 0)) ∧ ¬ S4 (w.heap.size + 1)
def Over (M : Bus) (r : Int × M.σ) (B1 dB wB sB B : Nat) (w : World) (S : Nat → Prop) (a : Act) (wx : World) : Prop :=
 ∃ u0 u1 u2 u3 u5 u6 u8 u9 u10 u11 u12 u13 u14 u15 u16 u17 u18 u19 u20 u21 u22 u23 u24 u25 u26 u27 u28 u29 u30 u31 u32 u33 u34 u35 u36 u37 u38 u39 u40 u41 u42 res, a = ⟨#[u0, u1, u2, u3, .pointer (some ⟨w.heap.size + 1, 0, none⟩), u5, u6, .int .u8 res, u8, u9, u10, u11, u12, u13, u14, u15, u16, u17, u18, u19, u20, u21, u22, u23, u24, u25, u26, u27, u28, u29, u30, u31, u32, u33, u34, u35, u36, u37, u38, u39, u40, u41, u42], []⟩ ∧ OverW M r B1 dB wB sB B w S res wx
set_option maxHeartbeats 4000000 in
set_option maxRecDepth 1000000 in
theorem out_ret (M : Bus) {dev : Bool} {w : World} {S : Nat → Prop} {dB wB sB B1 B k : Nat} {sv : Value} {us : List Value} (hk : k ≤ 10) (h : DoIn M dev w S dB wB sB B1 B k sv us) {s : M.σ} (ad en : Int) (tg iso : Bool) (mx : Int) (A : Option Addr) (n c : Nat) (xs : List Int)
  (hI : M.I w S s) (hd : D8 w S A n c xs) (hfar : n = 0 ∨ ∃ a, A = some a ∧ a.block < B1) (hn : n ≤ 1024) (hck : CkOk ⟨1, ad, en, []⟩) (hok : dev = true → M.Ok ⟨1, ad, en, []⟩ ∧ M.room (M.nx s).2) (hck2 : CkOk (dataPk tg xs)) (hok2 : M.dev dev s = true → M.Ok (dataPk tg xs) ∧ M.room (M.nx (M.speak dev s ⟨1, ad, en, []⟩).2).2) (hans : ∀ p s q, (M.hr s p).1 = some q → CkOk q ∧ q.data.length ≤ 1024) :
  Calls Try.prog 45 #[.func (.func 42) #[] #[.pointer (some ⟨dB, 0, none⟩), .pointer (some ⟨wB, 0, none⟩), .pointer (some ⟨sB, 0, none⟩)],
   .agg #[.int .u8 ad, .int .u8 en, .int .u8 1, .bool tg, .bool iso, .int .i64 mx, .slice A n c]] w (TrEnd M (((M.trOut dev s ad en tg iso xs).1, []), (M.trOut dev s ad en tg iso xs).2) dB sB B w S) := by
 have hb2 : ∀ a b, Below w.heap.size w ((w.alloc a).alloc b) := fun a b => ((Below.refl w.heap.size w).alloc (Nat.le_refl _) a).alloc (by simp) b
 have hbp := hb2 (.cells #[.int .u8 ad, .int .u8 en, .int .u8 1, .bool tg, .bool iso, .int .i64 mx, .slice A n c] 83) (.cells #[.int .u8 0, .slice none 0 0] 77)
 have hX0 := alloc2_0 w (.cells #[.int .u8 ad, .int .u8 en, .int .u8 1, .bool tg, .bool iso, .int .i64 mx, .slice A n c] 83) (.cells #[.int .u8 0, .slice none 0 0] 77)
 have hX1 := alloc2_1 w (.cells #[.int .u8 ad, .int .u8 en, .int .u8 1, .bool tg, .bool iso, .int .i64 mx, .slice A n c] 83) (.cells #[.int .u8 0, .slice none 0 0] 77)
 have hsay := say_do M (by omega) (h.below hbp) (p := ⟨1, ad, en, []⟩) (A := none) (n := 0) (c := 0) (Bus.below hI hbp) (D8.nil _ _) (by omega) hck hok (hans _)
 simp only [pkV] at hsay
 obtain ⟨r, hr⟩ : ∃ r, M.trOut dev s ad en tg iso xs = r := ⟨_, rfl⟩
 rw [hr]
 have HR := Lib.hid hr
 clear hr
 go_enter Try.func45, Try.ntmps45
 go_wp2_with fail
 refine wp_scope_jumps 0 (Over M r B1 dB wB sB B w S) (fun _ _ => 0) rfl ?first ?pass
 case pass =>
  rintro a wx ⟨u0, u1, u2, u3, u5, u6, u8, u9, u10, u11, u12, u13, u14, u15, u16, u17, u18, u19, u20, u21, u22, u23, u24, u25, u26, u27, u28, u29, u30, u31, u32, u33, u34, u35, u36, u37, u38, u39, u40, u41, u42, res, rfl, rfl, dv, S4, sv4, k4, us4, hI4, hx4, h4, hY4, hr4⟩
  dsimp only
  go_wp2_with (guard_target =~ wpList _ _ _ (_ :: _) _ _; (refine wpList_store_row rfl (.tmp 4) (.tmp 42) 77 rfl (w.heap.size + 1) 0 77 _ _ #[.int .u8 r.1, .slice none 0 0] rfl rfl hY4 (by kernel_rfl) (by simp) rfl rfl ?_; intro w5 hZ5 hW5))
  show bodyPost _ _ _ .ret _ _
  refine ret_one _ _ _ _ rfl rfl hZ5 Try.underlying77 rfl (by kernel_rfl) rfl ?_
  exact tr_end rfl hI4 hx4 (D8.nil _ _) (.inl rfl) h4 hY4 hW5 hr4 h.hBw
 go_wp2_with fail
 refine hsay.mono ?_
 clear hsay
 rintro e w1 ⟨S1, A1, n1, c1, sv1, k1, us1, rfl, hI1, hx1, _, _, h1, hk1, ho1⟩
 have hXl : ∀ i, (i = dB ∨ i = sB ∨ sv.ownBlock = some i) → i < w.heap.size := h.lt
 have hX0 := hx1.heap hX0 (Bus.new hI (Nat.le_refl _)) (fun hi => by have := hXl _ hi; omega)
 have hX1 := hx1.heap hX1 (Bus.new hI (Nat.le_succ _)) (fun hi => by have := hXl _ hi; omega)
 have hr1 : ¬ S1 (w.heap.size + 1) := hx1.out (by simp) (Bus.new hI (Nat.le_succ _))
 have hr0 : ¬ S1 w.heap.size := hx1.out (by simp; omega) (Bus.new hI (Nat.le_refl _))
 have hxx : Mx (fun i => i = dB ∨ i = sB ∨ B ≤ i) S w S1 w1 := ((Mx.refl _ S w).below hbp).trans (hx1.weak h.old)
 have hd1 := D8.mx hd hxx (hfar.imp id fun ⟨a, e, hl⟩ => ⟨a, e, by have := h.h1d; have := h.h1s; have := h.hdb; omega⟩)
 have hnX : ∀ g cs t', w1.heap[g]? = some (.cells cs t' (0, 0)) → t' ≠ 118 → w.heap.size ≤ g → ¬ (g = dB ∨ g = sB ∨ sv1.ownBlock = some g) := by
  intro g cs t' hg ht hle
  have := h.hdb
  have := h.hsb
  have := h.hBw
  rintro (e | e | e)
  ·omega
  ·omega
  ·exact own_type h1.hsB.2 hg ht e
 have hnx0 := hnX _ _ _ hX0 (by decide) (Nat.le_refl _)
 have hnx1 := hnX _ _ _ hX1 (by decide) (Nat.le_succ _)
 clear hnX hx1
 have t3 := cell_of hX0 3
 have t6 := cell_of hX0 6
 go_wp2_with fail
 refine (data_ret tg xs A n c w1).mono ?_
 rintro e w2 ⟨rfl, hb2'⟩
 have hY0 := heap_below hX0 hb2'
 have hY1 := heap_below hX1 hb2'
 have hw2 := hb2'.size
 have hsay := say_do M (by omega) (h1.below hb2') (p := dataPk tg xs) (A := A) (n := n) (c := c) (Bus.below hI1 hb2') (hd1.below hb2') hn hck2 hok2 (hans _)
 clear t3 t6
 unfold pkV at hsay ⊢
 go_wp2_with fail
 refine hsay.mono ?_
 clear hsay
 rintro e w4 ⟨S4, A4, n4, c4, sv4, k4, us4, rfl, hI4, hx4, _, _, h4, _, _⟩
 have hY04 := hx4.heap hY0 hr0 hnx0
 have hY14 := hx4.heap hY1 hr1 hnx1
 have hr4 := hx4.out (Array.getElem?_eq_some_iff.1 hY1).1 hr1
 have hx24 := (hxx.below hb2').trans (hx4.weak h1.old)
 have e2 : (M.speak (M.dev dev s) (M.speak dev s ⟨1, ad, en, []⟩).2 (dataPk tg xs)).2 = r.2 := by rw [← HR.out]; rfl
 have e1 : r.1 = if iso then 1 else match (M.speak (M.dev dev s) (M.speak dev s ⟨1, ad, en, []⟩).2 (dataPk tg xs)).1 with | none => 4 | some q => hsV q.pid true := by rw [← HR.out]; rfl
 rw [e2] at hI4
 obtain ⟨an, han⟩ : ∃ an, (M.speak (M.dev dev s) (M.speak dev s ⟨1, ad, en, []⟩).2 (dataPk tg xs)).1 = an := ⟨_, rfl⟩
 rw [han] at e1 ⊢
 have E1 := Lib.hid e1
 clear e1 e2 han hx4 hX0 hX1
 obtain ⟨ok, hok'⟩ : ∃ ok, an.isSome = ok := ⟨_, rfl⟩
 obtain ⟨⟨qp, qa, qe, qd⟩, hq⟩ : ∃ q, an.getD pk0 = q := ⟨_, rfl⟩
 rw [hok', hq]
 have HOK := Lib.hid hok'
 have HQ := Lib.hid hq
 clear hok' hq
 dsimp only
 have hba : ∀ o, Below w4.heap.size w4 (w4.alloc o) := fun o => (Below.refl _ w4).alloc (Nat.le_refl _) o
 have t4 := fun o => cell_of (heap_below hY04 (hba o)) 4
 have a0 : (w4.alloc (.cells #[.int .u8 qp, .int .u8 qa, .int .u8 qe, .int .u16 0, .int .u8 0, .int .u8 0, .bool false, .bool false, .int .u8 0, .slice A4 n4 c4] 113)).cell? ⟨w4.heap.size, 0, none⟩ = some (.int .u8 qp) := cell_of (heap_alloc_new w4 _) 0
 have hend : ∀ o, OverW M r B1 dB wB sB B w S r.1 (w4.alloc o) := fun o => ⟨rfl, _, S4, sv4, k4, us4, Bus.below hI4 (hba o), hx24.below (hba o), h4.below (hba o), heap_below hY14 (hba o), hr4⟩
 cases iso
 ·cases ok
  ·have e : r.1 = 4 := by
    have h1 := E1.out
    have h2 := HOK.out
    cases an
    ·exact h1
    ·simp at h2
   rw [e] at hend
   go_wp2_with fail
   go_step3
   exact ⟨rfl, _, _, _, _, _, _, _, _, _, _, _, _, _, _, _, _, _, _, _, _, _, _, _, _, _, _, _, _, _, _, _, _, _, _, _, _, _, _, _, _, _, _, rfl, hend _⟩
  ·have e : r.1 = hsV qp true := by
    have h1 := E1.out
    have h2 := HOK.out
    have h3 := HQ.out
    cases an
    ·simp at h2
    ·simp at h3; subst h3; exact h1
   have t2 := fun o => cell_of (heap_below hY04 (hba o)) 2
   have hY14a := fun o => heap_below hY14 (hba o)
   go_wp2_with fail
   refine (hs_ret qp true _).mono ?_
   rintro e w2' ⟨rfl, rfl⟩
   go_wp2_with fail
   go_step3
   go_wp2_with (guard_target =~ wpList _ _ _ (_ :: _) _ _; (refine wpList_store_row rfl (.tmp 4) (.tmp 42) 77 rfl (w.heap.size + 1) 0 77 _ _ #[.int .u8 (hsV qp true), .slice none 0 0] rfl rfl (hY14a _) (by kernel_rfl) (by simp) rfl rfl ?_; intro w5 hZ5 hW5))
   show bodyPost _ _ _ .ret _ _
   refine ret_one _ _ _ _ rfl rfl hZ5 Try.underlying77 rfl (by kernel_rfl) rfl ?_
   exact tr_end (by rw [e]) (Bus.below hI4 (hba _)) (hx24.below (hba _)) (D8.nil _ _) (.inl rfl) (h4.below (hba _)) (hY14a _) hW5 hr4 h.hBw
 ·have e : r.1 = 1 := E1.out
  rw [e] at hend
  go_wp2_with fail
  go_step3
  exact ⟨rfl, _, _, _, _, _, _, _, _, _, _, _, _, _, _, _, _, _, _, _, _, _, _, _, _, _, _, _, _, _, _, _, _, _, _, _, _, _, _, _, _, _, _, rfl, hend _⟩
end Go.Proofs.Ythifcblajimppaa
