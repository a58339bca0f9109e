/-
  What is proved here: what periodics.Answer returns, exactly.
  Conditions: what the pieces' cells hold.
-/
import Derived.Test.YtiajboiobjfcoaaGreatDoorIPnx
import Derived.Test.YtiajboiobjfcoaaGreatDoorQApp
namespace Go.Proofs.YtiajboiobjfcoaaGreatDoor
open Go.Proofs Go.RowKit
attribute [local go_sem] lt2 lt3 lt4 lt5
attribute [-go_sem] Builtin.append_
theorem infoPc : (Tryz.prog.info? 76).map (fun i => (i.zero, i.size, i.bytes)) = some (some (.agg #[.int .i64 0, .slice none 0 0]), 2, 32) := by kernel_rfl
def Pcs (w : World) (A : Option Addr) (n c : Nat) (vs : List Value) : Prop :=
 vs.length = n * 2 ∧ n ≤ c ∧ ((A = none ∧ n = 0 ∧ c = 0) ∨ ∃ a : Addr, A = some a ∧ ∀ (j : Nat) v, vs[j]? = some v → w.cell? (a.add j) = some v)
theorem Pcs.cells {w : World} {A : Option Addr} {n c : Nat} {vs : List Value} (h : Pcs w A n c vs) (hn : 0 < n) : ∃ a, A = some a ∧ ∀ (j : Nat) v, vs[j]? = some v → w.cell? (a.add j) = some v := by
 obtain ⟨h1, h2, ⟨_, h3, _⟩ | h3⟩ := h
 ·omega
 ·exact h3
theorem grown_pcs {w : World} {A B : Option Addr} {n m c : Nat} {vs us : List Value} (hA : Pcs w A n n vs) (hB : Pcs w B m c us) (hm : 0 < m) (hn : n + m ≤ 65536) :
  ∃ cap w', (Builtin.append_ #[50, 50] 50 #[.slice A n n, .slice B m c]).run Tryz.prog w = .ok (.slice (some ⟨w.heap.size, 0, none⟩) (n + m) cap) w' ∧ Pcs w' (some ⟨w.heap.size, 0, none⟩) (n + m) cap (vs ++ us) ∧ Below w.heap.size w w' ∧ w.heap.size < w'.heap.size := by
 obtain ⟨i0, hi, hz0, hz1, hz2⟩ := info_parts infoPc
 obtain ⟨b, rfl, hb⟩ := hB.cells hm
 have hul : us.length = m * 2 := hB.1
 have hvl : vs.length = n * 2 := hA.1
 have hcell : ∀ (w1 : World) (zs : Array Value), w1.heap = w.heap → ∀ (j : Nat) v, (vs ++ us)[j]? = some v → (w1.alloc (.cells (vs.toArray ++ us.toArray ++ zs) 76)).cell? ((⟨w.heap.size, 0, none⟩ : Addr).add j) = some v := by
  intro w1 zs hw j v hj
  rw [show (⟨w.heap.size, 0, none⟩ : Addr).add j = ⟨w.heap.size, j, none⟩ by unfold Addr.add; split <;> simp_all]
  have h1 : (w1.alloc (.cells (vs.toArray ++ us.toArray ++ zs) 76)).heap[w.heap.size]? = some (.cells (vs.toArray ++ us.toArray ++ zs) 76) := by
   have := heap_alloc_new w1 (.cells (vs.toArray ++ us.toArray ++ zs) 76)
   rw [hw] at this
   exact this
  rw [cell_of h1 j]
  have hl := (List.getElem?_eq_some_iff.1 hj).1
  have : (vs.toArray ++ us.toArray ++ zs)[j]? = ((vs ++ us).toArray ++ zs)[j]? := by simp
  rw [this, Array.getElem?_append_left (by simpa using hl)]
  simpa using hj
 have grow : ∀ a : Addr, A = some a → (∀ (j : Nat) v, vs[j]? = some v → w.cell? (a.add j) = some v) → ∃ cap w', (Builtin.append_ #[50, 50] 50 #[.slice A n n, .slice (some b) m c]).run Tryz.prog w = .ok (.slice (some ⟨w.heap.size, 0, none⟩) (n + m) cap) w' ∧ Pcs w' (some ⟨w.heap.size, 0, none⟩) (n + m) cap (vs ++ us) ∧ Below w.heap.size w w' ∧ w.heap.size < w'.heap.size := by
  rintro a rfl ha
  have hrun := run_append_grow (P := Tryz.prog) w 50 50 76 i0 (.agg #[.int .i64 0, .slice none 0 0]) Tryz.underlying50 hi hz0 a n n vs (by rw [hz1]; omega) ha b m c us (by rw [hz1]; omega) hb (by omega) (by omega) (growslice_fits (by omega) (by rw [hz2]; omega))
  refine ⟨_, _, hrun, ⟨by simp [hvl, hul]; omega, grownCap_ge _ _ _ _, .inr ⟨_, rfl, hcell w.drew _ rfl⟩⟩, ?_, ?_⟩
  ·exact ((Below.refl _ w).drew).alloc (by simp) _
  ·simp
 obtain ⟨_, _, ⟨rfl, rfl, _⟩ | ⟨a, rfl, ha⟩⟩ := hA
 ·have hvs : vs = [] := List.length_eq_zero_iff.1 (by rw [hvl])
  subst hvs
  have hrun := run_append_nil (P := Tryz.prog) w 50 50 76 i0 (.agg #[.int .i64 0, .slice none 0 0]) Tryz.underlying50 hi hz0 b m c us (by rw [hz1]; omega) hb hm (by omega) (by rw [hz2]; omega)
  have hc := hcell w.drew (Builtin.zeroCells (Value.agg #[.int .i64 0, .slice none 0 0]).cells (grownCap w m 0 76 - m)) rfl
  simp only [List.nil_append] at hc
  have e0 : ([] : List Value).toArray ++ us.toArray = us.toArray := by simp
  rw [e0] at hc
  refine ⟨_, _, by rw [Nat.zero_add]; exact hrun, ⟨by simp [hul], by rw [Nat.zero_add]; exact grownCap_ge _ _ _ _, .inr ⟨_, rfl, by simpa using hc⟩⟩, ?_, ?_⟩
  ·exact ((Below.refl _ w).drew).alloc (by simp) _
  ·simp
 ·exact grow a rfl ha
def errV (res : Int) : Int := if res = 1 then 0 else 11
def PaEnd (inn : Bool) (en mx m0 : Int) (PA : Option Addr) (pn pc many xn : Nat) (us : List Value) (res : Int) (xs : List Int) (w : World) (e : Ending) (w' : World) : Prop :=
 ∃ XA' xc' D, e = .returned (.agg #[.bool inn, .int .u8 en, .int .i64 mx, .slice PA pn pc, .int .i64 m0, .int .i64 (many : Int), .slice XA' (xn + 1) xc']) ∧ Pcs w' XA' (xn + 1) xc' (us ++ [.int .i64 (errV res), D]) ∧ Below w.heap.size w w' ∧ (∃ g, XA' = some ⟨g, 0, none⟩ ∧ w.heap.size ≤ g) ∧
  ((res = 1 ∧ inn = true ∧ ∃ g c, D = .slice (some ⟨g, 0, none⟩) xs.length c ∧ F8 w' g xs.length c xs ∧ w.heap.size ≤ g) ∨ (¬ (res = 1 ∧ inn = true) ∧ D = .slice none 0 0))
set_option maxHeartbeats 4000000 in
set_option maxRecDepth 1000000 in
theorem pa_ret (inn : Bool) (en mx m0 : Int) (many xn xc pn pc : Nat) (PA XA : Option Addr) (us : List Value) (res : Int) (A : Option Addr) (n c : Nat) (xs : List Int) (w : World) (hres : res = 1 ∨ res = 4) (hX : Pcs w XA xn xc us) (hx : xn < many) (hm : many ≤ 256)
  (hu : U8 w A n c xs) (hn : (n : Int) ≤ mx) (hmx : mx ≤ 1024) :
  Calls Tryz.prog 39 #[.agg #[.bool inn, .int .u8 en, .int .i64 mx, .slice PA pn pc, .int .i64 m0, .int .i64 (many : Int), .slice XA xn xc], .agg #[.int .u8 res, .slice A n c]] w (PaEnd inn en mx m0 PA pn pc many xn us res xs w) := by
 have q1 : ¬ (xn : Int) = (many : Int) := by omega
 have q2 : ((xn : Int) == (many : Int)) = false := by simp; omega
 have q4 : decide (mx < (n : Int)) = false := by simp; omega
 rcases hres with rfl | rfl
 ·cases inn
  ·go_enter Tryz.func39, Tryz.ntmps39
   go_upto_region 10 with fail
   obtain ⟨wx, hwx⟩ : ∃ wx, (((((w.alloc (.cells #[.bool false, .int .u8 en, .int .i64 mx, .slice PA pn pc, .int .i64 m0, .int .i64 (many : Int), .slice XA xn xc] 52)).alloc (.cells #[.int .u8 1, .slice A n c] 86)).alloc (.cells #[.bool false, .int .u8 0, .int .i64 0, .slice none 0 0, .int .i64 0, .int .i64 0, .slice none 0 0] 52)).alloc (.cells #[.int .i64 0, .int .i64 0, .int .i64 11, .int .i64 11, .int .i64 11, .int .i64 13, .int .i64 11] 158)).alloc (.cells #[.int .i64 0, .slice none 0 0] 76)) = wx := ⟨_, rfl⟩
   have hb : Below w.heap.size w wx := by rw [← hwx]; exact (((((Below.refl _ _).alloc (Nat.le_refl _) _).alloc (by simp) _).alloc (by simp; omega) _).alloc (by simp; omega) _).alloc (by simp; omega) _
   have hT : wx.heap[w.heap.size]? = some (.cells #[.bool false, .int .u8 en, .int .i64 mx, .slice PA pn pc, .int .i64 m0, .int .i64 (many : Int), .slice XA xn xc] 52 (0, 0)) := by rw [← hwx]; exact heap_below (heap_below (alloc3_0 _ _ _ _) ((Below.refl _ _).alloc (Nat.le_refl _) _)) ((Below.refl _ _).alloc (Nat.le_refl _) _)
   have hR : wx.heap[w.heap.size + 1 + 1]? = some (.cells #[.bool false, .int .u8 0, .int .i64 0, .slice none 0 0, .int .i64 0, .int .i64 0, .slice none 0 0] 52 (0, 0)) := by rw [← hwx]; exact heap_below (heap_below (alloc3_2 _ _ _ _) ((Below.refl _ _).alloc (Nat.le_refl _) _)) ((Below.refl _ _).alloc (Nat.le_refl _) _)
   have hPc : wx.heap[w.heap.size + 1 + 1 + 1 + 1]? = some (.cells #[.int .i64 0, .slice none 0 0] 76 (0, 0)) := by rw [← hwx]; have := heap_alloc_new ((((w.alloc (.cells #[.bool false, .int .u8 en, .int .i64 mx, .slice PA pn pc, .int .i64 m0, .int .i64 (many : Int), .slice XA xn xc] 52)).alloc (.cells #[.int .u8 1, .slice A n c] 86)).alloc (.cells #[.bool false, .int .u8 0, .int .i64 0, .slice none 0 0, .int .i64 0, .int .i64 0, .slice none 0 0] 52)).alloc (.cells #[.int .i64 0, .int .i64 0, .int .i64 11, .int .i64 11, .int .i64 11, .int .i64 13, .int .i64 11] 158)) (.cells #[.int .i64 0, .slice none 0 0] 76); simpa using this
   rw [hwx]
   clear hwx
   have t6 := cell_of hT 6
   have pc0 := cell_of hPc 0
   have pc1 := cell_of hPc 1
   have t6a : ∀ o, (wx.alloc o).cell? ⟨w.heap.size, 6, none⟩ = some (.slice XA xn xc) := fun o => (World.cell?_alloc_lt _ o _ (World.block_lt_of_cell? _ _ t6)).trans t6
   have hba : ∀ o, Below wx.heap.size wx (wx.alloc o).drew := fun o => ((Below.refl _ wx).alloc (Nat.le_refl _) o).drew
   have hxc : (xn : Int) ≤ (xc : Int) := by have := hX.2.1; omega
   have hX1 : Pcs (wx.alloc (.cells #[.int .i64 0, .slice none 0 0] 76)).drew XA xn xn us := ⟨hX.1, Nat.le_refl _, hX.2.2.imp (fun h => ⟨h.1, h.2.1, h.2.1⟩) (fun ⟨a, e, h⟩ => ⟨a, e, fun j v hj => by
    have h1 := h j v hj
    have h2 := (hb.cell (World.block_lt_of_cell? _ _ h1)).trans h1
    exact ((hba _).cell (World.block_lt_of_cell? _ _ h2)).trans h2⟩)⟩
   have hX2 : Pcs (wx.alloc (.cells #[.int .i64 0, .slice none 0 0] 76)).drew (some ⟨wx.heap.size, 0, none⟩) 1 1 [.int .i64 0, .slice none 0 0] := ⟨rfl, Nat.le_refl _, .inr ⟨_, rfl, World.news_of_block (w := (wx.alloc (.cells #[.int .i64 0, .slice none 0 0] 76)).drew) (heap_alloc_new wx (.cells #[.int .i64 0, .slice none 0 0] 76))⟩⟩
   obtain ⟨cap3, w3, hrun, hP3, hb3, hl3⟩ := grown_pcs hX1 hX2 (by omega) (by omega)
   have hbw := (hba (.cells #[.int .i64 0, .slice none 0 0] 76)).trans (hb3.mono (hba (.cells #[.int .i64 0, .slice none 0 0] 76)).size)
   have hT3 := heap_below hT hbw
   have hR3 := heap_below hR hbw
   have hszx : w.heap.size + 1 + 1 < wx.heap.size := (Array.getElem?_eq_some_iff.1 hR).1
   obtain ⟨g3, hg3⟩ : ∃ g3, (wx.alloc (.cells #[.int .i64 0, .slice none 0 0] 76)).drew.heap.size = g3 := ⟨_, rfl⟩
   have hg3s : wx.heap.size < g3 := by rw [← hg3]; simp
   rw [hg3] at hrun hP3
   have hfin : ∀ w4 w5, Wrote w.heap.size w3 w4 → Wrote (w.heap.size + 1 + 1) w4 w5 → PaEnd false en mx m0 PA pn pc many xn us 1 xs w (.returned (.agg #[.bool false, .int .u8 en, .int .i64 mx, .slice PA pn pc, .int .i64 m0, .int .i64 (many : Int), .slice (some ⟨g3, 0, none⟩) (xn + 1) cap3])) w5 := fun w4 w5 hW4 hW5 => by
    refine ⟨_, cap3, .slice none 0 0, rfl, ⟨hP3.1, hP3.2.1, .inr ⟨_, rfl, fun j v hj => ?_⟩⟩, ((hb.trans (hbw.mono hb.size)).trans (hW4.below (Nat.le_refl _))).trans (hW5.below (by omega)), ⟨g3, rfl, by have := hb.size; omega⟩, ?_⟩
    ·rcases hP3.2.2 with ⟨h, _⟩ | ⟨a, e, h⟩
     ·cases h
     cases e
     have h1 := h j v hj
     exact (hW5.cell (by rw [add_block']; show g3 ≠ _; omega)).trans ((hW4.cell (by rw [add_block']; show g3 ≠ _; omega)).trans h1)
    ·exact .inr ⟨by simp, rfl⟩
   clear hg3 hX1 hX2 hP3 hb3 hl3 hbw hT hR hPc
   have u6 := cell_of hT3 6
   have g6 := frozen_of hT3 6
   have hX3 := hX.2.2
   clear hX
   rcases hX3 with ⟨rfl, rfl, rfl⟩ | ⟨a, rfl, _⟩
   ·go_region
    all_goals
     obtain ⟨w4, hw4⟩ : ∃ w4, w3.setCell ⟨w.heap.size, 6, none⟩ (.slice (some ⟨g3, 0, none⟩) 1 cap3) = w4 := ⟨_, rfl⟩
     have hW4 : Wrote w.heap.size w3 w4 := by rw [← hw4]; exact (Wrote.refl w.heap.size w3).setCell 6 _
     have hT4 : w4.heap[w.heap.size]? = some (.cells #[.bool false, .int .u8 en, .int .i64 mx, .slice PA pn pc, .int .i64 m0, .int .i64 (many : Int), .slice (some ⟨g3, 0, none⟩) 1 cap3] 52 (0, 0)) := by rw [← hw4]; exact setCell_heap hT3 6 _
     rw [hw4]
     clear hw4 u6 g6
     have hR4 := (hW4.other (w.heap.size + 1 + 1) (by omega)).trans hR3
     go_wp2_with (guard_target =~ wpList _ _ _ (_ :: _) _ _; first
      | refine wpList_load_row rfl (.tmp 2) 52 rfl w.heap.size 52 _ _ rfl hT4 Tryz.underlying52 rfl (by kernel_rfl) ?_
      | (refine wpList_store_row rfl (.tmp 4) (.tmp 63) 52 rfl (w.heap.size + 1 + 1) 0 52 _ _ #[.bool false, .int .u8 en, .int .i64 mx, .slice PA pn pc, .int .i64 m0, .int .i64 (many : Int), .slice (some ⟨g3, 0, none⟩) 1 cap3] rfl rfl hR4 (by kernel_rfl) (by simp) rfl rfl ?_; intro w5 hZ5 hW5))
     exact ret_one _ _ _ _ rfl rfl hZ5 Tryz.underlying52 rfl (by kernel_rfl) rfl (hfin w4 w5 hW4 hW5)
   ·go_region
    all_goals
     obtain ⟨w4, hw4⟩ : ∃ w4, w3.setCell ⟨w.heap.size, 6, none⟩ (.slice (some ⟨g3, 0, none⟩) (xn + 1) cap3) = w4 := ⟨_, rfl⟩
     have hW4 : Wrote w.heap.size w3 w4 := by rw [← hw4]; exact (Wrote.refl w.heap.size w3).setCell 6 _
     have hT4 : w4.heap[w.heap.size]? = some (.cells #[.bool false, .int .u8 en, .int .i64 mx, .slice PA pn pc, .int .i64 m0, .int .i64 (many : Int), .slice (some ⟨g3, 0, none⟩) (xn + 1) cap3] 52 (0, 0)) := by rw [← hw4]; exact setCell_heap hT3 6 _
     rw [hw4]
     clear hw4 u6 g6
     have hR4 := (hW4.other (w.heap.size + 1 + 1) (by omega)).trans hR3
     go_wp2_with (guard_target =~ wpList _ _ _ (_ :: _) _ _; first
      | refine wpList_load_row rfl (.tmp 2) 52 rfl w.heap.size 52 _ _ rfl hT4 Tryz.underlying52 rfl (by kernel_rfl) ?_
      | (refine wpList_store_row rfl (.tmp 4) (.tmp 63) 52 rfl (w.heap.size + 1 + 1) 0 52 _ _ #[.bool false, .int .u8 en, .int .i64 mx, .slice PA pn pc, .int .i64 m0, .int .i64 (many : Int), .slice (some ⟨g3, 0, none⟩) (xn + 1) cap3] rfl rfl hR4 (by kernel_rfl) (by simp) rfl rfl ?_; intro w5 hZ5 hW5))
     exact ret_one _ _ _ _ rfl rfl hZ5 Tryz.underlying52 rfl (by kernel_rfl) rfl (hfin w4 w5 hW4 hW5)
  ·go_enter Tryz.func39, Tryz.ntmps39
   have hn' : n ≤ 65536 := by omega
   have hb0 : Below w.heap.size w (((((w.alloc (.cells #[.bool true, .int .u8 en, .int .i64 mx, .slice PA pn pc, .int .i64 m0, .int .i64 (many : Int), .slice XA xn xc] 52)).alloc (.cells #[.int .u8 1, .slice A n c] 86)).alloc (.cells #[.bool false, .int .u8 0, .int .i64 0, .slice none 0 0, .int .i64 0, .int .i64 0, .slice none 0 0] 52)).alloc (.cells #[.int .i64 0, .int .i64 0, .int .i64 11, .int .i64 11, .int .i64 11, .int .i64 13, .int .i64 11] 158)).alloc (.cells #[.int .i64 0, .slice none 0 0] 76)) := (((((Below.refl _ _).alloc (Nat.le_refl _) _).alloc (by simp) _).alloc (by simp; omega) _).alloc (by simp; omega) _).alloc (by simp; omega) _
   go_wp2_with fail
   refine (clone_p A n c xs _ (hu.below hb0) hn').mono ?_
   rintro e w2 ⟨g1, c1, rfl, hu1, hg1, hb2⟩
   have hT2 : w2.heap[w.heap.size]? = some (.cells #[.bool true, .int .u8 en, .int .i64 mx, .slice PA pn pc, .int .i64 m0, .int .i64 (many : Int), .slice XA xn xc] 52 (0, 0)) := heap_below (heap_below (heap_below (alloc3_0 _ _ _ _) ((Below.refl _ _).alloc (Nat.le_refl _) _)) ((Below.refl _ _).alloc (Nat.le_refl _) _)) hb2
   have hR2 : w2.heap[w.heap.size + 1 + 1]? = some (.cells #[.bool false, .int .u8 0, .int .i64 0, .slice none 0 0, .int .i64 0, .int .i64 0, .slice none 0 0] 52 (0, 0)) := heap_below (heap_below (heap_below (alloc3_2 _ _ _ _) ((Below.refl _ _).alloc (Nat.le_refl _) _)) ((Below.refl _ _).alloc (Nat.le_refl _) _)) hb2
   have hP2 : w2.heap[w.heap.size + 1 + 1 + 1 + 1]? = some (.cells #[.int .i64 0, .slice none 0 0] 76 (0, 0)) := heap_below (by have := heap_alloc_new ((((w.alloc (.cells #[.bool true, .int .u8 en, .int .i64 mx, .slice PA pn pc, .int .i64 m0, .int .i64 (many : Int), .slice XA xn xc] 52)).alloc (.cells #[.int .u8 1, .slice A n c] 86)).alloc (.cells #[.bool false, .int .u8 0, .int .i64 0, .slice none 0 0, .int .i64 0, .int .i64 0, .slice none 0 0] 52)).alloc (.cells #[.int .i64 0, .int .i64 0, .int .i64 11, .int .i64 11, .int .i64 11, .int .i64 13, .int .i64 11] 158)) (.cells #[.int .i64 0, .slice none 0 0] 76); simpa using this) hb2
   have hg1' : w.heap.size + 1 + 1 + 1 + 1 + 1 ≤ g1 := by simpa using hg1
   have hbb := hb0.trans (hb2.mono hb0.size)
   have x1 := cell_of hP2 1
   have y1 := frozen_of hP2 1
   have v6 := cell_of hT2 6
   clear hg1 hb2 hb0
   go_upto_region 10 with fail
   obtain ⟨wx, hwx⟩ : ∃ wx, w2.setCell ⟨w.heap.size + 1 + 1 + 1 + 1, 1, none⟩ (.slice (some ⟨g1, 0, none⟩) xs.length c1) = wx := ⟨_, rfl⟩
   have hWx : Wrote (w.heap.size + 1 + 1 + 1 + 1) w2 wx := by rw [← hwx]; exact (Wrote.refl _ w2).setCell 1 _
   have hPc : wx.heap[w.heap.size + 1 + 1 + 1 + 1]? = some (.cells #[.int .i64 0, .slice (some ⟨g1, 0, none⟩) xs.length c1] 76 (0, 0)) := by rw [← hwx]; exact setCell_heap hP2 1 _
   rw [hwx]
   clear hwx x1 y1 v6
   have hT := (hWx.other w.heap.size (by omega)).trans hT2
   have hR := (hWx.other (w.heap.size + 1 + 1) (by omega)).trans hR2
   have hb := hbb.trans (hWx.below (by omega))
   have hux : F8 wx g1 xs.length c1 xs := hu1.heap (fun o ho => (hWx.other g1 (by omega)).trans ho)
   clear hT2 hR2 hP2 hbb hWx hu1
   have t6 := cell_of hT 6
   have pc0 := cell_of hPc 0
   have pc1 := cell_of hPc 1
   have t6a : ∀ o, (wx.alloc o).cell? ⟨w.heap.size, 6, none⟩ = some (.slice XA xn xc) := fun o => (World.cell?_alloc_lt _ o _ (World.block_lt_of_cell? _ _ t6)).trans t6
   have hba : ∀ o, Below wx.heap.size wx (wx.alloc o).drew := fun o => ((Below.refl _ wx).alloc (Nat.le_refl _) o).drew
   have hxc : (xn : Int) ≤ (xc : Int) := by have := hX.2.1; omega
   have hX1 : Pcs (wx.alloc (.cells #[.int .i64 0, .slice (some ⟨g1, 0, none⟩) xs.length c1] 76)).drew XA xn xn us := ⟨hX.1, Nat.le_refl _, hX.2.2.imp (fun h => ⟨h.1, h.2.1, h.2.1⟩) (fun ⟨a, e, h⟩ => ⟨a, e, fun j v hj => by
    have h1 := h j v hj
    have h2 := (hb.cell (World.block_lt_of_cell? _ _ h1)).trans h1
    exact ((hba _).cell (World.block_lt_of_cell? _ _ h2)).trans h2⟩)⟩
   have hX2 : Pcs (wx.alloc (.cells #[.int .i64 0, .slice (some ⟨g1, 0, none⟩) xs.length c1] 76)).drew (some ⟨wx.heap.size, 0, none⟩) 1 1 [.int .i64 0, .slice (some ⟨g1, 0, none⟩) xs.length c1] := ⟨rfl, Nat.le_refl _, .inr ⟨_, rfl, World.news_of_block (w := (wx.alloc (.cells #[.int .i64 0, .slice (some ⟨g1, 0, none⟩) xs.length c1] 76)).drew) (heap_alloc_new wx (.cells #[.int .i64 0, .slice (some ⟨g1, 0, none⟩) xs.length c1] 76))⟩⟩
   obtain ⟨cap3, w3, hrun, hP3, hb3, hl3⟩ := grown_pcs hX1 hX2 (by omega) (by omega)
   have hbw := (hba (.cells #[.int .i64 0, .slice (some ⟨g1, 0, none⟩) xs.length c1] 76)).trans (hb3.mono (hba (.cells #[.int .i64 0, .slice (some ⟨g1, 0, none⟩) xs.length c1] 76)).size)
   have hT3 := heap_below hT hbw
   have hR3 := heap_below hR hbw
   have hszx : w.heap.size + 1 + 1 < wx.heap.size := (Array.getElem?_eq_some_iff.1 hR).1
   obtain ⟨g3, hg3⟩ : ∃ g3, (wx.alloc (.cells #[.int .i64 0, .slice (some ⟨g1, 0, none⟩) xs.length c1] 76)).drew.heap.size = g3 := ⟨_, rfl⟩
   have hg3s : wx.heap.size < g3 := by rw [← hg3]; simp
   rw [hg3] at hrun hP3
   have hfin : ∀ w4 w5, Wrote w.heap.size w3 w4 → Wrote (w.heap.size + 1 + 1) w4 w5 → PaEnd true en mx m0 PA pn pc many xn us 1 xs w (.returned (.agg #[.bool true, .int .u8 en, .int .i64 mx, .slice PA pn pc, .int .i64 m0, .int .i64 (many : Int), .slice (some ⟨g3, 0, none⟩) (xn + 1) cap3])) w5 := fun w4 w5 hW4 hW5 => by
    refine ⟨_, cap3, .slice (some ⟨g1, 0, none⟩) xs.length c1, rfl, ⟨hP3.1, hP3.2.1, .inr ⟨_, rfl, fun j v hj => ?_⟩⟩, ((hb.trans (hbw.mono hb.size)).trans (hW4.below (Nat.le_refl _))).trans (hW5.below (by omega)), ⟨g3, rfl, by have := hb.size; omega⟩, ?_⟩
    ·rcases hP3.2.2 with ⟨h, _⟩ | ⟨a, e, h⟩
     ·cases h
     cases e
     have h1 := h j v hj
     exact (hW5.cell (by rw [add_block']; show g3 ≠ _; omega)).trans ((hW4.cell (by rw [add_block']; show g3 ≠ _; omega)).trans h1)
    ·exact .inl ⟨rfl, rfl, g1, c1, rfl, hux.heap (fun o ho => (hW5.other g1 (by omega)).trans ((hW4.other g1 (by omega)).trans (heap_below ho hbw))), by omega⟩
   clear hg3 hX1 hX2 hP3 hb3 hl3 hbw hT hR hPc
   have u6 := cell_of hT3 6
   have g6 := frozen_of hT3 6
   have hX3 := hX.2.2
   clear hX
   rcases hX3 with ⟨rfl, rfl, rfl⟩ | ⟨a, rfl, _⟩
   ·go_region
    all_goals
     obtain ⟨w4, hw4⟩ : ∃ w4, w3.setCell ⟨w.heap.size, 6, none⟩ (.slice (some ⟨g3, 0, none⟩) 1 cap3) = w4 := ⟨_, rfl⟩
     have hW4 : Wrote w.heap.size w3 w4 := by rw [← hw4]; exact (Wrote.refl w.heap.size w3).setCell 6 _
     have hT4 : w4.heap[w.heap.size]? = some (.cells #[.bool true, .int .u8 en, .int .i64 mx, .slice PA pn pc, .int .i64 m0, .int .i64 (many : Int), .slice (some ⟨g3, 0, none⟩) 1 cap3] 52 (0, 0)) := by rw [← hw4]; exact setCell_heap hT3 6 _
     rw [hw4]
     clear hw4 u6 g6
     have hR4 := (hW4.other (w.heap.size + 1 + 1) (by omega)).trans hR3
     go_wp2_with (guard_target =~ wpList _ _ _ (_ :: _) _ _; first
      | refine wpList_load_row rfl (.tmp 2) 52 rfl w.heap.size 52 _ _ rfl hT4 Tryz.underlying52 rfl (by kernel_rfl) ?_
      | (refine wpList_store_row rfl (.tmp 4) (.tmp 63) 52 rfl (w.heap.size + 1 + 1) 0 52 _ _ #[.bool true, .int .u8 en, .int .i64 mx, .slice PA pn pc, .int .i64 m0, .int .i64 (many : Int), .slice (some ⟨g3, 0, none⟩) 1 cap3] rfl rfl hR4 (by kernel_rfl) (by simp) rfl rfl ?_; intro w5 hZ5 hW5))
     exact ret_one _ _ _ _ rfl rfl hZ5 Tryz.underlying52 rfl (by kernel_rfl) rfl (hfin w4 w5 hW4 hW5)
   ·go_region
    all_goals
     obtain ⟨w4, hw4⟩ : ∃ w4, w3.setCell ⟨w.heap.size, 6, none⟩ (.slice (some ⟨g3, 0, none⟩) (xn + 1) cap3) = w4 := ⟨_, rfl⟩
     have hW4 : Wrote w.heap.size w3 w4 := by rw [← hw4]; exact (Wrote.refl w.heap.size w3).setCell 6 _
     have hT4 : w4.heap[w.heap.size]? = some (.cells #[.bool true, .int .u8 en, .int .i64 mx, .slice PA pn pc, .int .i64 m0, .int .i64 (many : Int), .slice (some ⟨g3, 0, none⟩) (xn + 1) cap3] 52 (0, 0)) := by rw [← hw4]; exact setCell_heap hT3 6 _
     rw [hw4]
     clear hw4 u6 g6
     have hR4 := (hW4.other (w.heap.size + 1 + 1) (by omega)).trans hR3
     go_wp2_with (guard_target =~ wpList _ _ _ (_ :: _) _ _; first
      | refine wpList_load_row rfl (.tmp 2) 52 rfl w.heap.size 52 _ _ rfl hT4 Tryz.underlying52 rfl (by kernel_rfl) ?_
      | (refine wpList_store_row rfl (.tmp 4) (.tmp 63) 52 rfl (w.heap.size + 1 + 1) 0 52 _ _ #[.bool true, .int .u8 en, .int .i64 mx, .slice PA pn pc, .int .i64 m0, .int .i64 (many : Int), .slice (some ⟨g3, 0, none⟩) (xn + 1) cap3] rfl rfl hR4 (by kernel_rfl) (by simp) rfl rfl ?_; intro w5 hZ5 hW5))
     exact ret_one _ _ _ _ rfl rfl hZ5 Tryz.underlying52 rfl (by kernel_rfl) rfl (hfin w4 w5 hW4 hW5)
 ·cases inn
  ·go_enter Tryz.func39, Tryz.ntmps39
   go_upto_region 10 with fail
   obtain ⟨wx, hwx⟩ : ∃ wx, (((((w.alloc (.cells #[.bool false, .int .u8 en, .int .i64 mx, .slice PA pn pc, .int .i64 m0, .int .i64 (many : Int), .slice XA xn xc] 52)).alloc (.cells #[.int .u8 4, .slice A n c] 86)).alloc (.cells #[.bool false, .int .u8 0, .int .i64 0, .slice none 0 0, .int .i64 0, .int .i64 0, .slice none 0 0] 52)).alloc (.cells #[.int .i64 0, .int .i64 0, .int .i64 11, .int .i64 11, .int .i64 11, .int .i64 13, .int .i64 11] 158)).alloc (.cells #[.int .i64 11, .slice none 0 0] 76)) = wx := ⟨_, rfl⟩
   have hb : Below w.heap.size w wx := by rw [← hwx]; exact (((((Below.refl _ _).alloc (Nat.le_refl _) _).alloc (by simp) _).alloc (by simp; omega) _).alloc (by simp; omega) _).alloc (by simp; omega) _
   have hT : wx.heap[w.heap.size]? = some (.cells #[.bool false, .int .u8 en, .int .i64 mx, .slice PA pn pc, .int .i64 m0, .int .i64 (many : Int), .slice XA xn xc] 52 (0, 0)) := by rw [← hwx]; exact heap_below (heap_below (alloc3_0 _ _ _ _) ((Below.refl _ _).alloc (Nat.le_refl _) _)) ((Below.refl _ _).alloc (Nat.le_refl _) _)
   have hR : wx.heap[w.heap.size + 1 + 1]? = some (.cells #[.bool false, .int .u8 0, .int .i64 0, .slice none 0 0, .int .i64 0, .int .i64 0, .slice none 0 0] 52 (0, 0)) := by rw [← hwx]; exact heap_below (heap_below (alloc3_2 _ _ _ _) ((Below.refl _ _).alloc (Nat.le_refl _) _)) ((Below.refl _ _).alloc (Nat.le_refl _) _)
   have hPc : wx.heap[w.heap.size + 1 + 1 + 1 + 1]? = some (.cells #[.int .i64 11, .slice none 0 0] 76 (0, 0)) := by rw [← hwx]; have := heap_alloc_new ((((w.alloc (.cells #[.bool false, .int .u8 en, .int .i64 mx, .slice PA pn pc, .int .i64 m0, .int .i64 (many : Int), .slice XA xn xc] 52)).alloc (.cells #[.int .u8 4, .slice A n c] 86)).alloc (.cells #[.bool false, .int .u8 0, .int .i64 0, .slice none 0 0, .int .i64 0, .int .i64 0, .slice none 0 0] 52)).alloc (.cells #[.int .i64 0, .int .i64 0, .int .i64 11, .int .i64 11, .int .i64 11, .int .i64 13, .int .i64 11] 158)) (.cells #[.int .i64 11, .slice none 0 0] 76); simpa using this
   rw [hwx]
   clear hwx
   have t6 := cell_of hT 6
   have pc0 := cell_of hPc 0
   have pc1 := cell_of hPc 1
   have t6a : ∀ o, (wx.alloc o).cell? ⟨w.heap.size, 6, none⟩ = some (.slice XA xn xc) := fun o => (World.cell?_alloc_lt _ o _ (World.block_lt_of_cell? _ _ t6)).trans t6
   have hba : ∀ o, Below wx.heap.size wx (wx.alloc o).drew := fun o => ((Below.refl _ wx).alloc (Nat.le_refl _) o).drew
   have hxc : (xn : Int) ≤ (xc : Int) := by have := hX.2.1; omega
   have hX1 : Pcs (wx.alloc (.cells #[.int .i64 11, .slice none 0 0] 76)).drew XA xn xn us := ⟨hX.1, Nat.le_refl _, hX.2.2.imp (fun h => ⟨h.1, h.2.1, h.2.1⟩) (fun ⟨a, e, h⟩ => ⟨a, e, fun j v hj => by
    have h1 := h j v hj
    have h2 := (hb.cell (World.block_lt_of_cell? _ _ h1)).trans h1
    exact ((hba _).cell (World.block_lt_of_cell? _ _ h2)).trans h2⟩)⟩
   have hX2 : Pcs (wx.alloc (.cells #[.int .i64 11, .slice none 0 0] 76)).drew (some ⟨wx.heap.size, 0, none⟩) 1 1 [.int .i64 11, .slice none 0 0] := ⟨rfl, Nat.le_refl _, .inr ⟨_, rfl, World.news_of_block (w := (wx.alloc (.cells #[.int .i64 11, .slice none 0 0] 76)).drew) (heap_alloc_new wx (.cells #[.int .i64 11, .slice none 0 0] 76))⟩⟩
   obtain ⟨cap3, w3, hrun, hP3, hb3, hl3⟩ := grown_pcs hX1 hX2 (by omega) (by omega)
   have hbw := (hba (.cells #[.int .i64 11, .slice none 0 0] 76)).trans (hb3.mono (hba (.cells #[.int .i64 11, .slice none 0 0] 76)).size)
   have hT3 := heap_below hT hbw
   have hR3 := heap_below hR hbw
   have hszx : w.heap.size + 1 + 1 < wx.heap.size := (Array.getElem?_eq_some_iff.1 hR).1
   obtain ⟨g3, hg3⟩ : ∃ g3, (wx.alloc (.cells #[.int .i64 11, .slice none 0 0] 76)).drew.heap.size = g3 := ⟨_, rfl⟩
   have hg3s : wx.heap.size < g3 := by rw [← hg3]; simp
   rw [hg3] at hrun hP3
   have hfin : ∀ w4 w5, Wrote w.heap.size w3 w4 → Wrote (w.heap.size + 1 + 1) w4 w5 → PaEnd false en mx m0 PA pn pc many xn us 4 xs w (.returned (.agg #[.bool false, .int .u8 en, .int .i64 mx, .slice PA pn pc, .int .i64 m0, .int .i64 (many : Int), .slice (some ⟨g3, 0, none⟩) (xn + 1) cap3])) w5 := fun w4 w5 hW4 hW5 => by
    refine ⟨_, cap3, .slice none 0 0, rfl, ⟨hP3.1, hP3.2.1, .inr ⟨_, rfl, fun j v hj => ?_⟩⟩, ((hb.trans (hbw.mono hb.size)).trans (hW4.below (Nat.le_refl _))).trans (hW5.below (by omega)), ⟨g3, rfl, by have := hb.size; omega⟩, ?_⟩
    ·rcases hP3.2.2 with ⟨h, _⟩ | ⟨a, e, h⟩
     ·cases h
     cases e
     have h1 := h j v hj
     exact (hW5.cell (by rw [add_block']; show g3 ≠ _; omega)).trans ((hW4.cell (by rw [add_block']; show g3 ≠ _; omega)).trans h1)
    ·exact .inr ⟨by simp, rfl⟩
   clear hg3 hX1 hX2 hP3 hb3 hl3 hbw hT hR hPc
   have u6 := cell_of hT3 6
   have g6 := frozen_of hT3 6
   have hX3 := hX.2.2
   clear hX
   rcases hX3 with ⟨rfl, rfl, rfl⟩ | ⟨a, rfl, _⟩
   ·go_region
    all_goals
     obtain ⟨w4, hw4⟩ : ∃ w4, w3.setCell ⟨w.heap.size, 6, none⟩ (.slice (some ⟨g3, 0, none⟩) 1 cap3) = w4 := ⟨_, rfl⟩
     have hW4 : Wrote w.heap.size w3 w4 := by rw [← hw4]; exact (Wrote.refl w.heap.size w3).setCell 6 _
     have hT4 : w4.heap[w.heap.size]? = some (.cells #[.bool false, .int .u8 en, .int .i64 mx, .slice PA pn pc, .int .i64 m0, .int .i64 (many : Int), .slice (some ⟨g3, 0, none⟩) 1 cap3] 52 (0, 0)) := by rw [← hw4]; exact setCell_heap hT3 6 _
     rw [hw4]
     clear hw4 u6 g6
     have hR4 := (hW4.other (w.heap.size + 1 + 1) (by omega)).trans hR3
     go_wp2_with (guard_target =~ wpList _ _ _ (_ :: _) _ _; first
      | refine wpList_load_row rfl (.tmp 2) 52 rfl w.heap.size 52 _ _ rfl hT4 Tryz.underlying52 rfl (by kernel_rfl) ?_
      | (refine wpList_store_row rfl (.tmp 4) (.tmp 63) 52 rfl (w.heap.size + 1 + 1) 0 52 _ _ #[.bool false, .int .u8 en, .int .i64 mx, .slice PA pn pc, .int .i64 m0, .int .i64 (many : Int), .slice (some ⟨g3, 0, none⟩) 1 cap3] rfl rfl hR4 (by kernel_rfl) (by simp) rfl rfl ?_; intro w5 hZ5 hW5))
     exact ret_one _ _ _ _ rfl rfl hZ5 Tryz.underlying52 rfl (by kernel_rfl) rfl (hfin w4 w5 hW4 hW5)
   ·go_region
    all_goals
     obtain ⟨w4, hw4⟩ : ∃ w4, w3.setCell ⟨w.heap.size, 6, none⟩ (.slice (some ⟨g3, 0, none⟩) (xn + 1) cap3) = w4 := ⟨_, rfl⟩
     have hW4 : Wrote w.heap.size w3 w4 := by rw [← hw4]; exact (Wrote.refl w.heap.size w3).setCell 6 _
     have hT4 : w4.heap[w.heap.size]? = some (.cells #[.bool false, .int .u8 en, .int .i64 mx, .slice PA pn pc, .int .i64 m0, .int .i64 (many : Int), .slice (some ⟨g3, 0, none⟩) (xn + 1) cap3] 52 (0, 0)) := by rw [← hw4]; exact setCell_heap hT3 6 _
     rw [hw4]
     clear hw4 u6 g6
     have hR4 := (hW4.other (w.heap.size + 1 + 1) (by omega)).trans hR3
     go_wp2_with (guard_target =~ wpList _ _ _ (_ :: _) _ _; first
      | refine wpList_load_row rfl (.tmp 2) 52 rfl w.heap.size 52 _ _ rfl hT4 Tryz.underlying52 rfl (by kernel_rfl) ?_
      | (refine wpList_store_row rfl (.tmp 4) (.tmp 63) 52 rfl (w.heap.size + 1 + 1) 0 52 _ _ #[.bool false, .int .u8 en, .int .i64 mx, .slice PA pn pc, .int .i64 m0, .int .i64 (many : Int), .slice (some ⟨g3, 0, none⟩) (xn + 1) cap3] rfl rfl hR4 (by kernel_rfl) (by simp) rfl rfl ?_; intro w5 hZ5 hW5))
     exact ret_one _ _ _ _ rfl rfl hZ5 Tryz.underlying52 rfl (by kernel_rfl) rfl (hfin w4 w5 hW4 hW5)
  ·go_enter Tryz.func39, Tryz.ntmps39
   go_upto_region 10 with fail
   obtain ⟨wx, hwx⟩ : ∃ wx, (((((w.alloc (.cells #[.bool true, .int .u8 en, .int .i64 mx, .slice PA pn pc, .int .i64 m0, .int .i64 (many : Int), .slice XA xn xc] 52)).alloc (.cells #[.int .u8 4, .slice A n c] 86)).alloc (.cells #[.bool false, .int .u8 0, .int .i64 0, .slice none 0 0, .int .i64 0, .int .i64 0, .slice none 0 0] 52)).alloc (.cells #[.int .i64 0, .int .i64 0, .int .i64 11, .int .i64 11, .int .i64 11, .int .i64 13, .int .i64 11] 158)).alloc (.cells #[.int .i64 11, .slice none 0 0] 76)) = wx := ⟨_, rfl⟩
   have hb : Below w.heap.size w wx := by rw [← hwx]; exact (((((Below.refl _ _).alloc (Nat.le_refl _) _).alloc (by simp) _).alloc (by simp; omega) _).alloc (by simp; omega) _).alloc (by simp; omega) _
   have hT : wx.heap[w.heap.size]? = some (.cells #[.bool true, .int .u8 en, .int .i64 mx, .slice PA pn pc, .int .i64 m0, .int .i64 (many : Int), .slice XA xn xc] 52 (0, 0)) := by rw [← hwx]; exact heap_below (heap_below (alloc3_0 _ _ _ _) ((Below.refl _ _).alloc (Nat.le_refl _) _)) ((Below.refl _ _).alloc (Nat.le_refl _) _)
   have hR : wx.heap[w.heap.size + 1 + 1]? = some (.cells #[.bool false, .int .u8 0, .int .i64 0, .slice none 0 0, .int .i64 0, .int .i64 0, .slice none 0 0] 52 (0, 0)) := by rw [← hwx]; exact heap_below (heap_below (alloc3_2 _ _ _ _) ((Below.refl _ _).alloc (Nat.le_refl _) _)) ((Below.refl _ _).alloc (Nat.le_refl _) _)
   have hPc : wx.heap[w.heap.size + 1 + 1 + 1 + 1]? = some (.cells #[.int .i64 11, .slice none 0 0] 76 (0, 0)) := by rw [← hwx]; have := heap_alloc_new ((((w.alloc (.cells #[.bool true, .int .u8 en, .int .i64 mx, .slice PA pn pc, .int .i64 m0, .int .i64 (many : Int), .slice XA xn xc] 52)).alloc (.cells #[.int .u8 4, .slice A n c] 86)).alloc (.cells #[.bool false, .int .u8 0, .int .i64 0, .slice none 0 0, .int .i64 0, .int .i64 0, .slice none 0 0] 52)).alloc (.cells #[.int .i64 0, .int .i64 0, .int .i64 11, .int .i64 11, .int .i64 11, .int .i64 13, .int .i64 11] 158)) (.cells #[.int .i64 11, .slice none 0 0] 76); simpa using this
   rw [hwx]
   clear hwx
   have t6 := cell_of hT 6
   have pc0 := cell_of hPc 0
   have pc1 := cell_of hPc 1
   have t6a : ∀ o, (wx.alloc o).cell? ⟨w.heap.size, 6, none⟩ = some (.slice XA xn xc) := fun o => (World.cell?_alloc_lt _ o _ (World.block_lt_of_cell? _ _ t6)).trans t6
   have hba : ∀ o, Below wx.heap.size wx (wx.alloc o).drew := fun o => ((Below.refl _ wx).alloc (Nat.le_refl _) o).drew
   have hxc : (xn : Int) ≤ (xc : Int) := by have := hX.2.1; omega
   have hX1 : Pcs (wx.alloc (.cells #[.int .i64 11, .slice none 0 0] 76)).drew XA xn xn us := ⟨hX.1, Nat.le_refl _, hX.2.2.imp (fun h => ⟨h.1, h.2.1, h.2.1⟩) (fun ⟨a, e, h⟩ => ⟨a, e, fun j v hj => by
    have h1 := h j v hj
    have h2 := (hb.cell (World.block_lt_of_cell? _ _ h1)).trans h1
    exact ((hba _).cell (World.block_lt_of_cell? _ _ h2)).trans h2⟩)⟩
   have hX2 : Pcs (wx.alloc (.cells #[.int .i64 11, .slice none 0 0] 76)).drew (some ⟨wx.heap.size, 0, none⟩) 1 1 [.int .i64 11, .slice none 0 0] := ⟨rfl, Nat.le_refl _, .inr ⟨_, rfl, World.news_of_block (w := (wx.alloc (.cells #[.int .i64 11, .slice none 0 0] 76)).drew) (heap_alloc_new wx (.cells #[.int .i64 11, .slice none 0 0] 76))⟩⟩
   obtain ⟨cap3, w3, hrun, hP3, hb3, hl3⟩ := grown_pcs hX1 hX2 (by omega) (by omega)
   have hbw := (hba (.cells #[.int .i64 11, .slice none 0 0] 76)).trans (hb3.mono (hba (.cells #[.int .i64 11, .slice none 0 0] 76)).size)
   have hT3 := heap_below hT hbw
   have hR3 := heap_below hR hbw
   have hszx : w.heap.size + 1 + 1 < wx.heap.size := (Array.getElem?_eq_some_iff.1 hR).1
   obtain ⟨g3, hg3⟩ : ∃ g3, (wx.alloc (.cells #[.int .i64 11, .slice none 0 0] 76)).drew.heap.size = g3 := ⟨_, rfl⟩
   have hg3s : wx.heap.size < g3 := by rw [← hg3]; simp
   rw [hg3] at hrun hP3
   have hfin : ∀ w4 w5, Wrote w.heap.size w3 w4 → Wrote (w.heap.size + 1 + 1) w4 w5 → PaEnd true en mx m0 PA pn pc many xn us 4 xs w (.returned (.agg #[.bool true, .int .u8 en, .int .i64 mx, .slice PA pn pc, .int .i64 m0, .int .i64 (many : Int), .slice (some ⟨g3, 0, none⟩) (xn + 1) cap3])) w5 := fun w4 w5 hW4 hW5 => by
    refine ⟨_, cap3, .slice none 0 0, rfl, ⟨hP3.1, hP3.2.1, .inr ⟨_, rfl, fun j v hj => ?_⟩⟩, ((hb.trans (hbw.mono hb.size)).trans (hW4.below (Nat.le_refl _))).trans (hW5.below (by omega)), ⟨g3, rfl, by have := hb.size; omega⟩, ?_⟩
    ·rcases hP3.2.2 with ⟨h, _⟩ | ⟨a, e, h⟩
     ·cases h
     cases e
     have h1 := h j v hj
     exact (hW5.cell (by rw [add_block']; show g3 ≠ _; omega)).trans ((hW4.cell (by rw [add_block']; show g3 ≠ _; omega)).trans h1)
    ·exact .inr ⟨by simp, rfl⟩
   clear hg3 hX1 hX2 hP3 hb3 hl3 hbw hT hR hPc
   have u6 := cell_of hT3 6
   have g6 := frozen_of hT3 6
   have hX3 := hX.2.2
   clear hX
   rcases hX3 with ⟨rfl, rfl, rfl⟩ | ⟨a, rfl, _⟩
   ·go_region
    all_goals
     obtain ⟨w4, hw4⟩ : ∃ w4, w3.setCell ⟨w.heap.size, 6, none⟩ (.slice (some ⟨g3, 0, none⟩) 1 cap3) = w4 := ⟨_, rfl⟩
     have hW4 : Wrote w.heap.size w3 w4 := by rw [← hw4]; exact (Wrote.refl w.heap.size w3).setCell 6 _
     have hT4 : w4.heap[w.heap.size]? = some (.cells #[.bool true, .int .u8 en, .int .i64 mx, .slice PA pn pc, .int .i64 m0, .int .i64 (many : Int), .slice (some ⟨g3, 0, none⟩) 1 cap3] 52 (0, 0)) := by rw [← hw4]; exact setCell_heap hT3 6 _
     rw [hw4]
     clear hw4 u6 g6
     have hR4 := (hW4.other (w.heap.size + 1 + 1) (by omega)).trans hR3
     go_wp2_with (guard_target =~ wpList _ _ _ (_ :: _) _ _; first
      | refine wpList_load_row rfl (.tmp 2) 52 rfl w.heap.size 52 _ _ rfl hT4 Tryz.underlying52 rfl (by kernel_rfl) ?_
      | (refine wpList_store_row rfl (.tmp 4) (.tmp 63) 52 rfl (w.heap.size + 1 + 1) 0 52 _ _ #[.bool true, .int .u8 en, .int .i64 mx, .slice PA pn pc, .int .i64 m0, .int .i64 (many : Int), .slice (some ⟨g3, 0, none⟩) 1 cap3] rfl rfl hR4 (by kernel_rfl) (by simp) rfl rfl ?_; intro w5 hZ5 hW5))
     exact ret_one _ _ _ _ rfl rfl hZ5 Tryz.underlying52 rfl (by kernel_rfl) rfl (hfin w4 w5 hW4 hW5)
   ·go_region
    all_goals
     obtain ⟨w4, hw4⟩ : ∃ w4, w3.setCell ⟨w.heap.size, 6, none⟩ (.slice (some ⟨g3, 0, none⟩) (xn + 1) cap3) = w4 := ⟨_, rfl⟩
     have hW4 : Wrote w.heap.size w3 w4 := by rw [← hw4]; exact (Wrote.refl w.heap.size w3).setCell 6 _
     have hT4 : w4.heap[w.heap.size]? = some (.cells #[.bool true, .int .u8 en, .int .i64 mx, .slice PA pn pc, .int .i64 m0, .int .i64 (many : Int), .slice (some ⟨g3, 0, none⟩) (xn + 1) cap3] 52 (0, 0)) := by rw [← hw4]; exact setCell_heap hT3 6 _
     rw [hw4]
     clear hw4 u6 g6
     have hR4 := (hW4.other (w.heap.size + 1 + 1) (by omega)).trans hR3
     go_wp2_with (guard_target =~ wpList _ _ _ (_ :: _) _ _; first
      | refine wpList_load_row rfl (.tmp 2) 52 rfl w.heap.size 52 _ _ rfl hT4 Tryz.underlying52 rfl (by kernel_rfl) ?_
      | (refine wpList_store_row rfl (.tmp 4) (.tmp 63) 52 rfl (w.heap.size + 1 + 1) 0 52 _ _ #[.bool true, .int .u8 en, .int .i64 mx, .slice PA pn pc, .int .i64 m0, .int .i64 (many : Int), .slice (some ⟨g3, 0, none⟩) (xn + 1) cap3] rfl rfl hR4 (by kernel_rfl) (by simp) rfl rfl ?_; intro w5 hZ5 hW5))
     exact ret_one _ _ _ _ rfl rfl hZ5 Tryz.underlying52 rfl (by kernel_rfl) rfl (hfin w4 w5 hW4 hW5)
end Go.Proofs.YtiajboiobjfcoaaGreatDoor
