/-
  What is proved here: what Port.Start leaves for the law's three endpoints.
  Conditions: what the endpoints' and the port's cells hold.
-/
import Derived.Test.YthifcblajimppaaDUse
namespace Go.Proofs.Ythifcblajimppaa
open Go.Proofs Go.RowKit
attribute [local go_sem] lt2 lt3 lt4 lt5
def pt0 (a b c : Value) : Array Value := #[.slice none 0 0, .slice none 0 0, .int .u16 5, .int .u32 9600, .int .u8 0, .int .u8 0, .int .u8 8, .int .u8 0, .int .u8 0, .int .u8 0, .int .i64 0, .int .i64 0, a, b, c]
def pv (k j g : Nat) : Value := if k ≤ j then .pointer none else .pointer (some ⟨g, 0, none⟩)
set_option maxHeartbeats 8000000 in
set_option maxRecDepth 100000 in
theorem start_ret (P I O N b mx : Nat) (w : World) (hm : 1 ≤ mx) (hE : E3 I O N mx w) (hb : w.heap[b]? = some (.cells #[.pointer (some ⟨I, 0, none⟩), .pointer (some ⟨O, 0, none⟩), .pointer (some ⟨N, 0, none⟩)] 50 (0, 0)))
  (hP : w.heap[P]? = some (.cells (pt0 (.pointer none) (.pointer none) (.pointer none)) 67 (0, 0))) (hne : P ≠ I ∧ P ≠ O ∧ P ≠ N ∧ P ≠ b) :
  Calls Try.prog 18 #[.pointer (some ⟨P, 0, none⟩), .slice (some ⟨b, 0, none⟩) 3 3] w fun e w' => e = .returned (.tuple #[]) ∧ w'.heap[P]? = some (.cells (ptC I O none 0 0 none 0 0 0 0 (.pointer (some ⟨N, 0, none⟩))) 67 (0, 0)) ∧ Mv (fun i => i = P) w (fun i => i = P) w' := by
 have hst := stop_ret P _ w hP rfl
 have HE := Lib.hid hE
 have HB := Lib.hid hb
 have hPl := (Array.getElem?_eq_some_iff.1 hP).1
 clear hE hb hP
 go_enter Try.func18, Try.ntmps18
 go_wp2_with fail
 refine hst.mono ?_
 rintro e w0 ⟨rfl, hW0, hP0⟩
 have hP0 : w0.heap[P]? = some (.cells (pt0 (.pointer none) (.pointer none) (.pointer none)) 67 (0, 0)) := hP0
 have hX := hP0
 unfold pt0 at hX
 have x9 := cell_of hX 9
 have f9 := frozen_of hX 9
 clear hX hst
 go_upto_block 0 with fail
 obtain ⟨w1, hw1⟩ : ∃ w1, w0.setCell ⟨P, 9, none⟩ (.int .u8 0) = w1 := ⟨_, rfl⟩
 have hP1 : w1.heap[P]? = some (.cells (pt0 (.pointer none) (.pointer none) (.pointer none)) 67 (0, 0)) := by rw [← hw1]; exact ((Put1.refl hP0).set 9 (.int .u8 0)).heap
 have hW1 : Wrote P w w1 := by rw [← hw1]; exact hW0.trans ((Put1.refl hP0).set 9 (.int .u8 0)).wrote
 rw [hw1]
 have hm1 : Mv (fun i => i = P) w (fun i => i = P) w1 := ⟨hW1.os, hW1.tape, hW1.output, Nat.le_of_eq hW1.size.symm, fun i _ hs => hW1.other i hs, fun _ _ h => h⟩
 have HP1 := Lib.hid hP1
 have HM1 := Lib.hid hm1
 clear hw1 hP0 hW0 x9 f9 hP1 hW1 hm1
 go_cut [] from 5 to 80 (fun wx => wx.heap[P]? = some (.cells (pt0 (.pointer (some ⟨I, 0, none⟩)) (.pointer (some ⟨O, 0, none⟩)) (.pointer (some ⟨N, 0, none⟩))) 67 (0, 0)) ∧ Mv (fun i => i = P) w (fun i => i = P) wx)
 case first =>
  go_wp2_with fail
  go_loopw [16] (fun i wr => ∃ k : Nat, i = .int .i64 k ∧ k ≤ 3 ∧ wr.heap[P]? = some (.cells (pt0 (pv k 0 I) (pv k 1 O) (pv k 2 N)) 67 (0, 0)) ∧ Mv (fun i => i = P) w (fun i => i = P) wr) (fun i _ => 3 - (intOf i).toNat)
  case atStart => exact ⟨0, rfl, by omega, HP1.out, HM1.out⟩
  case round =>
   obtain ⟨k, rfl, hk, hPr, hmr⟩ := hrel
   by_cases hk3 : k = 3
   ·subst hk3
    have H1 := Lib.hid hPr
    have H2 := Lib.hid hmr
    clear hPr hmr
    go_wp2_with fail
    go_meet
    exact ⟨H1.out, H2.out⟩
   have hEr : E3 I O N mx wr := ⟨hmr.heap HE.out.1 (fun e => hne.1 e.symm), hmr.heap HE.out.2.1 (fun e => hne.2.1 e.symm), hmr.heap HE.out.2.2 (fun e => hne.2.2.1 e.symm)⟩
   have hbr := hmr.heap HB.out (fun e => hne.2.2.2 e.symm)
   have hfin : ∀ (j : Nat) (v : Value) (wx : World), Below wr.heap.size wr wx → wx.heap[P]? = some (.cells (pt0 (pv k 0 I) (pv k 1 O) (pv k 2 N)) 67 (0, 0)) → Mv (fun i => i = P) w (fun i => i = P) (wx.setCell ⟨P, j, none⟩ v) := fun j v wx hb hx => by
    have hW := ((Put1.refl hx).set j v).wrote
    exact (hmr.below hb).trans ⟨hW.os, hW.tape, hW.output, Nat.le_of_eq hW.size.symm, fun i _ hs => hW.other i hs, fun _ _ h => h⟩
   have H1 := Lib.hid hPr
   have H2 := Lib.hid hmr
   have HF := Lib.hid hfin
   obtain rfl | rfl | rfl : k = 0 ∨ k = 1 ∨ k = 2 := by omega
   ·have b0 := cell_of hbr 0
    have hcf := config_ret I none 0 0 0 none 0 0 1 true 2 mx false false wr (by omega) hEr.1
    clear hPr hmr hfin hEr hbr
    go_wp2_with fail
    refine hcf.mono ?_
    rintro e w2 ⟨rfl, hb2⟩
    have hb3 : ∀ o, Below wr.heap.size wr (w2.alloc o) := fun o => hb2.trans ((Below.refl _ _).alloc hb2.size o)
    have hP3 := fun o => heap_below H1.out (hb3 o)
    have y12 : ∀ o, (w2.alloc o).cell? ⟨P, 12, none⟩ = some (pv 0 0 I) := fun o => cell_of (hP3 o) 12
    have y13 : ∀ o, (w2.alloc o).cell? ⟨P, 13, none⟩ = some (pv 0 1 O) := fun o => cell_of (hP3 o) 13
    have y14 : ∀ o, (w2.alloc o).cell? ⟨P, 14, none⟩ = some (pv 0 2 N) := fun o => cell_of (hP3 o) 14
    rw [show pv 0 0 I = .pointer none from rfl] at y12
    rw [show pv 0 1 O = .pointer none from rfl] at y13
    rw [show pv 0 2 N = .pointer none from rfl] at y14
    have fz := fun o => frozen_of (hP3 o) 12
    have HP3 := Lib.hid hP3
    have HB3 := Lib.hid hb3
    clear hcf hP3 hb3 hb2
    go_wp2_with fail
    go_roundw
    case rel => exact ⟨1, rfl, by omega, ((Put1.refl (HP3.out _)).set 12 (.pointer (some ⟨I, 0, none⟩))).heap, HF.out 12 _ _ (HB3.out _) (HP3.out _)⟩
    case measure => simp [intOf]
   ·have b0 := cell_of hbr 1
    have hcf := config_ret O none 0 0 0 none 0 0 2 false 2 mx false false wr (by omega) hEr.2.1
    clear hPr hmr hfin hEr hbr
    go_wp2_with fail
    refine hcf.mono ?_
    rintro e w2 ⟨rfl, hb2⟩
    have hb3 : ∀ o, Below wr.heap.size wr (w2.alloc o) := fun o => hb2.trans ((Below.refl _ _).alloc hb2.size o)
    have hP3 := fun o => heap_below H1.out (hb3 o)
    have y12 : ∀ o, (w2.alloc o).cell? ⟨P, 12, none⟩ = some (pv 1 0 I) := fun o => cell_of (hP3 o) 12
    have y13 : ∀ o, (w2.alloc o).cell? ⟨P, 13, none⟩ = some (pv 1 1 O) := fun o => cell_of (hP3 o) 13
    have y14 : ∀ o, (w2.alloc o).cell? ⟨P, 14, none⟩ = some (pv 1 2 N) := fun o => cell_of (hP3 o) 14
    rw [show pv 1 0 I = .pointer (some ⟨I, 0, none⟩) from rfl] at y12
    rw [show pv 1 1 O = .pointer none from rfl] at y13
    rw [show pv 1 2 N = .pointer none from rfl] at y14
    have fz := fun o => frozen_of (hP3 o) 13
    have HP3 := Lib.hid hP3
    have HB3 := Lib.hid hb3
    clear hcf hP3 hb3 hb2
    go_wp2_with fail
    go_roundw
    case rel => exact ⟨2, rfl, by omega, ((Put1.refl (HP3.out _)).set 13 (.pointer (some ⟨O, 0, none⟩))).heap, HF.out 13 _ _ (HB3.out _) (HP3.out _)⟩
    case measure => simp [intOf]
   ·have b0 := cell_of hbr 2
    have hcf := config_ret N none 0 0 0 none 0 0 3 true 3 16 false false wr (by omega) hEr.2.2
    clear hPr hmr hfin hEr hbr
    go_wp2_with fail
    refine hcf.mono ?_
    rintro e w2 ⟨rfl, hb2⟩
    have hb3 : ∀ o, Below wr.heap.size wr (w2.alloc o) := fun o => hb2.trans ((Below.refl _ _).alloc hb2.size o)
    have hP3 := fun o => heap_below H1.out (hb3 o)
    have y12 : ∀ o, (w2.alloc o).cell? ⟨P, 12, none⟩ = some (pv 2 0 I) := fun o => cell_of (hP3 o) 12
    have y13 : ∀ o, (w2.alloc o).cell? ⟨P, 13, none⟩ = some (pv 2 1 O) := fun o => cell_of (hP3 o) 13
    have y14 : ∀ o, (w2.alloc o).cell? ⟨P, 14, none⟩ = some (pv 2 2 N) := fun o => cell_of (hP3 o) 14
    rw [show pv 2 0 I = .pointer (some ⟨I, 0, none⟩) from rfl] at y12
    rw [show pv 2 1 O = .pointer (some ⟨O, 0, none⟩) from rfl] at y13
    rw [show pv 2 2 N = .pointer none from rfl] at y14
    have fz := fun o => frozen_of (hP3 o) 14
    have HP3 := Lib.hid hP3
    have HB3 := Lib.hid hb3
    clear hcf hP3 hb3 hb2
    go_wp2_with fail
    go_roundw
    case rel => exact ⟨3, rfl, by omega, ((Put1.refl (HP3.out _)).set 14 (.pointer (some ⟨N, 0, none⟩))).heap, HF.out 14 _ _ (HB3.out _) (HP3.out _)⟩
    case measure => simp [intOf]
 case rest =>
 obtain ⟨hP3, hm3⟩ := hcut
 have hX := hP3
 unfold pt0 at hX
 have x12 := cell_of hX 12
 have x13 := cell_of hX 13
 have H1 := Lib.hid hP3
 clear hX hP3
 go_wp2_with fail
 go_end0
 exact ⟨rfl, H1.out, hm3⟩
end Go.Proofs.Ythifcblajimppaa
