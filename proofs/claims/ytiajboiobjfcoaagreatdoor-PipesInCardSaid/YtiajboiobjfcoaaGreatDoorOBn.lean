/-
  What is proved here: what bulks.Next and pipes.Next return for a stream, exactly.
  Conditions: what the transfer's list holds.
-/
import Derived.Test.YtiajboiobjfcoaaGreatDoorIPnx
namespace Go.Proofs.YtiajboiobjfcoaaGreatDoor
open Go.Proofs Go.RowKit
attribute [local go_sem] lt2 lt3 lt4 lt5
set_option maxHeartbeats 4000000 in
set_option maxRecDepth 1000000 in
theorem idleX (g : Nat) (p0 : Bool) (p1 p2 : Int) (p3 : Bool) (p4 : Value) (p5 : Bool) (p6 : Int) (l gt : Value) (ac er : Int) (ov : Bool) (e : Int) (t : TypeId) (w : World) (hm : (p2 == 0) = false)
  (hg : w.heap[g]? = some (.cells #[.bool p0, .int .u8 p1, .int .i64 p2, .bool p3, p4, .bool p5, .int .i64 p6, l, gt, .int .i64 ac, .int .i64 er, .bool ov, .int .i64 e] t (0, 0))) :
  Calls Tryz.prog 66 #[.pointer (some ⟨g, 0, none⟩)] w fun e w' => e = .returned (.bool ov) ∧ w' = w := by
 have c11 := cell_of hg 11
 have c2 := cell_of hg 2
 have hlt : g < w.heap.size := (Array.getElem?_eq_some_iff.1 hg).1
 go_enter Tryz.func66, Tryz.ntmps66
 cases ov
 all_goals
  go_wp2_with fail
  go_ret
  exact ⟨rfl, rfl⟩
def trV (inn : Bool) (en mx : Int) (tg z : Bool) (len : Int) (L D : Value) (act er : Int) (ov : Bool) (e : Int) : Array Value :=
 #[.bool inn, .int .u8 en, .int .i64 mx, .bool tg, .slice none 0 0, .bool z, .int .i64 len, L, D, .int .i64 act, .int .i64 er, .bool ov, .int .i64 e]
set_option maxHeartbeats 4000000 in
set_option maxRecDepth 1000000 in
theorem bnx_over (inn : Bool) (en mx : Int) (tg z : Bool) (len : Int) (LA : Option Addr) (m lc : Nat) (DA : Option Addr) (dn dc : Nat) (act er e : Int) (w : World) (hm : (mx == 0) = false) :
  Calls Tryz.prog 37 #[.agg (trV inn en mx tg z len (.slice LA m lc) (.slice DA dn dc) act er true e)] w fun e w' => Below w.heap.size w w' ∧ e = .returned (.tuple #[.agg #[.int .u8 0, .int .u8 0, .int .u8 0, .bool false, .bool false, .int .i64 0, .slice none 0 0], .bool false]) := by
 have hb : ∀ a b, Below w.heap.size w ((w.alloc a).alloc b) := fun a b => ((Below.refl w.heap.size w).alloc (Nat.le_refl _) a).alloc (by simp) b
 have hi := fun a => idleX w.heap.size inn en mx tg (.slice none 0 0) z len (.slice LA m lc) (.slice DA dn dc) act er true e 47 _ hm (alloc2_0 w _ a)
 unfold trV
 go_enter Tryz.func37, Tryz.ntmps37
 go_wp2_with fail
 refine (hi _).mono ?_
 rintro e w1 ⟨rfl, rfl⟩
 go_wp2_with fail
 exact ret_cell _ _ _ _ _ rfl rfl rfl (alloc2_1 w _ _) Tryz.underlying80 rfl (by kernel_rfl) rfl ⟨hb _ _, rfl⟩
set_option maxHeartbeats 4000000 in
set_option maxRecDepth 1000000 in
theorem bnx_in (en mx : Int) (tg : Bool) (len : Int) (DA : Option Addr) (dn dc : Nat) (act er e : Int) (w : World) (hm : (mx == 0) = false) :
  Calls Tryz.prog 37 #[.agg (trV true en mx tg false len (.slice none 0 0) (.slice DA dn dc) act er false e)] w fun e w' => Below w.heap.size w w' ∧ ∃ A n c, e = .returned (.tuple #[.agg #[.int .u8 0, .int .u8 en, .int .u8 9, .bool tg, .bool false, .int .i64 mx, .slice A n c], .bool true]) ∧ New8 w w' A n c [] ∧ Pl A n := by
 have hb : ∀ a b, Below w.heap.size w ((w.alloc a).alloc b) := fun a b => ((Below.refl w.heap.size w).alloc (Nat.le_refl _) a).alloc (by simp) b
 have hi := fun a => idleX w.heap.size true en mx tg (.slice none 0 0) false len (.slice none 0 0) (.slice DA dn dc) act er false e 47 _ hm (alloc2_0 w _ a)
 unfold trV
 go_enter Tryz.func37, Tryz.ntmps37
 go_wp2_with fail
 refine (hi _).mono ?_
 rintro e w1 ⟨rfl, rfl⟩
 go_wp2_with fail
 go_region
 all_goals
  go_wp2_with fail
  exact ret_cell (w.heap.size + 1) 80 _ _ _ rfl rfl rfl (alloc3_1 w _ _ _) Tryz.underlying80 rfl (by kernel_rfl) rfl ⟨((hb _ _).alloc (by simp; omega) _).drew, none, 0, 0, rfl, ⟨(D8.nil _ (fun _ => False)).1, .inl rfl⟩, .inl rfl⟩
set_option maxHeartbeats 4000000 in
set_option maxRecDepth 1000000 in
theorem pipe_nextB (ad en : Int) (inn : Bool) (k mx per sp hu po : Int) (tg ha : Bool) (c0 c1 c2 c3 c4 c5 c6 c7 c8 c9 c10 c11 c12 b0 b1 b2 b3 b4 b5 b6 b7 b8 b9 b10 b11 b12 i0 i1 i2 i3 i4 i5 i6 r0 r1 : Value) (b p : Int) (tg' is0 : Bool) (mx' : Int) (xs : List Int) (w : World) (k0 : (k == 0) = false) (k1 : (k == 1) = false)
    (hn : ∀ w', Below w.heap.size w w' → Calls Tryz.prog 37 #[.agg #[b0, b1, b2, b3, b4, b5, b6, b7, b8, b9, b10, b11, b12]] w' fun e w2 => Below w'.heap.size w' w2 ∧ ∃ A n c, e = .returned (.tuple #[.agg #[.int .u8 0, .int .u8 b, .int .u8 p, .bool tg', .bool is0, .int .i64 mx', .slice A n c], .bool true]) ∧ New8 w' w2 A n c xs ∧ Pl A n) :
    Calls Tryz.prog 18 #[.agg #[.bool true, .int .u8 ad, .int .u8 en, .bool inn, .int .u8 k, .int .i64 mx, .int .i64 per, .int .u8 sp, .int .u8 hu, .int .u8 po, .bool tg, .bool ha, c0, c1, c2, c3, c4, c5, c6, c7, c8, c9, c10, c11, c12, b0, b1, b2, b3, b4, b5, b6, b7, b8, b9, b10, b11, b12, i0, i1, i2, i3, i4, i5, i6, r0, r1]] w fun e w2 => Below w.heap.size w w2 ∧ ∃ A n c, e = .returned (.tuple #[.agg #[.int .u8 ad, .int .u8 b, .int .u8 p, .bool tg', .bool is0, .int .i64 mx', .slice A n c], .bool true]) ∧ New8 w w2 A n c xs ∧ Pl A n := by
  go_enter Tryz.func18, Tryz.ntmps18
  go_wp2_with fail
  refine (hn _ ((((Below.refl w.heap.size w).alloc (Nat.le_refl _) _).alloc (by simp) _).alloc (by simp; omega) _)).mono ?_
  rintro e w' ⟨hb, A, n, c, rfl, hN, hPl⟩
  have HPL := Lib.hid hPl
  clear hPl
  have hX0 := heap_below (alloc3_0 w _ _ _) hb
  have hX1 := heap_below (alloc3_1 w _ _ _) hb
  have hX2 := heap_below (alloc3_2 w _ _ _) hb
  have hb0 := ((((Below.refl w.heap.size w).alloc (Nat.le_refl _) _).alloc (by simp) _).alloc (by simp; omega) _).trans (hb.mono (by simp; omega))
  have hfar : n = 0 ∨ ∃ a, A = some a ∧ w.heap.size + 1 + 1 + 1 ≤ a.block := hN.2.imp id fun ⟨a, e, h⟩ => ⟨a, e, by simpa using h⟩
  have hu := hN.1
  clear hb hn hN
  go_wp2_with (guard_target =~ wpList _ _ _ (_ :: _) _ _; first
    | (refine wpList_store_row rfl (.tmp 4) (.tmp 17) 80 rfl (w.heap.size + 1 + 1) 0 80 _ _ #[.int .u8 0, .int .u8 b, .int .u8 p, .bool tg', .bool is0, .int .i64 mx', .slice A n c] rfl rfl hX2 (by kernel_rfl) (by simp) rfl rfl ?_; intro w3 hZ2 hW3
       have hY1 := (hW3.other (w.heap.size + 1) (by omega)).trans hX1
       have hY0 := (hW3.other w.heap.size (by omega)).trans hX0
       have y0 := cell_of hY0 1
       have z0 := cell_of hZ2 0
       have f0 := frozen_of hZ2 0
       have hS := setCell_heap hZ2 0 (.int .u8 ad)
       have hS1 := ((Wrote.refl (w.heap.size + 1 + 1) w3).setCell 0 (.int .u8 ad))
       have hU1 := (hS1.other (w.heap.size + 1) (by omega)).trans hY1)
    | refine wpList_load_row rfl (.tmp 4) 80 rfl (w.heap.size + 1 + 1) 80 _ _ rfl hS Tryz.underlying80 rfl (by kernel_rfl) ?_
    | (refine wpList_store_row rfl (.tmp 2) (.tmp 42) 80 rfl (w.heap.size + 1) 0 80 _ _ #[.int .u8 ad, .int .u8 b, .int .u8 p, .bool tg', .bool is0, .int .i64 mx', .slice A n c] rfl rfl hU1 (by kernel_rfl) (by simp) rfl rfl ?_; intro w4 hZ1 hW4))
  exact ret_cell _ _ _ _ _ rfl rfl rfl hZ1 Tryz.underlying80 rfl (by kernel_rfl) rfl ⟨((hb0.trans (hW3.below (by omega))).trans (hS1.below (by omega))).trans (hW4.below (by omega)), A, n, c, rfl,
    ⟨((hu.wrote hW3 (hfar.imp id fun ⟨a, e, h⟩ => ⟨a, e, by omega⟩)).wrote hS1 (hfar.imp id fun ⟨a, e, h⟩ => ⟨a, e, by omega⟩)).wrote hW4 (hfar.imp id fun ⟨a, e, h⟩ => ⟨a, e, by omega⟩), hfar.imp id fun ⟨a, e, h⟩ => ⟨a, e, by omega⟩⟩, HPL.out⟩
set_option maxHeartbeats 4000000 in
set_option maxRecDepth 1000000 in
theorem pipe_overB (ad en : Int) (inn : Bool) (k mx per sp hu po : Int) (tg ha : Bool) (c0 c1 c2 c3 c4 c5 c6 c7 c8 c9 c10 c11 c12 b0 b1 b2 b3 b4 b5 b6 b7 b8 b9 b10 b11 b12 i0 i1 i2 i3 i4 i5 i6 r0 r1 : Value) (w : World) (k0 : (k == 0) = false) (k1 : (k == 1) = false)
    (hn : ∀ w', Below w.heap.size w w' → Calls Tryz.prog 37 #[.agg #[b0, b1, b2, b3, b4, b5, b6, b7, b8, b9, b10, b11, b12]] w' fun e w2 => Below w'.heap.size w' w2 ∧ e = .returned (.tuple #[.agg #[.int .u8 0, .int .u8 0, .int .u8 0, .bool false, .bool false, .int .i64 0, .slice none 0 0], .bool false])) :
    Calls Tryz.prog 18 #[.agg #[.bool true, .int .u8 ad, .int .u8 en, .bool inn, .int .u8 k, .int .i64 mx, .int .i64 per, .int .u8 sp, .int .u8 hu, .int .u8 po, .bool tg, .bool ha, c0, c1, c2, c3, c4, c5, c6, c7, c8, c9, c10, c11, c12, b0, b1, b2, b3, b4, b5, b6, b7, b8, b9, b10, b11, b12, i0, i1, i2, i3, i4, i5, i6, r0, r1]] w fun e w2 => Below w.heap.size w w2 ∧ e = .returned (.tuple #[.agg #[.int .u8 0, .int .u8 0, .int .u8 0, .bool false, .bool false, .int .i64 0, .slice none 0 0], .bool false]) := by
  go_enter Tryz.func18, Tryz.ntmps18
  go_wp2_with fail
  refine (hn _ ((((Below.refl w.heap.size w).alloc (Nat.le_refl _) _).alloc (by simp) _).alloc (by simp; omega) _)).mono ?_
  rintro e w' ⟨hb, rfl⟩
  have hX1 := heap_below (alloc3_1 w _ _ _) hb
  have hX2 := heap_below (alloc3_2 w _ _ _) hb
  have hb0 := ((((Below.refl w.heap.size w).alloc (Nat.le_refl _) _).alloc (by simp) _).alloc (by simp; omega) _).trans (hb.mono (by simp; omega))
  clear hb hn
  go_wp2_with (guard_target =~ wpList _ _ _ (_ :: _) _ _; first
    | (refine wpList_store_row rfl (.tmp 4) (.tmp 17) 80 rfl (w.heap.size + 1 + 1) 0 80 _ _ #[.int .u8 0, .int .u8 0, .int .u8 0, .bool false, .bool false, .int .i64 0, .slice none 0 0] rfl rfl hX2 (by kernel_rfl) (by simp) rfl rfl ?_; intro w3 hZ2 hW3
       have hY1 := (hW3.other (w.heap.size + 1) (by omega)).trans hX1)
    | (refine wpList_store_row rfl (.tmp 2) (.tmp 37) 80 rfl (w.heap.size + 1) 0 80 _ _ #[.int .u8 0, .int .u8 0, .int .u8 0, .bool false, .bool false, .int .i64 0, .slice none 0 0] rfl rfl hY1 (by kernel_rfl) (by simp) rfl rfl ?_; intro w4 hZ1 hW4))
  exact ret_cell _ _ _ _ _ rfl rfl rfl hZ1 Tryz.underlying80 rfl (by kernel_rfl) rfl ⟨(hb0.trans (hW3.below (by omega))).trans (hW4.below (by omega)), rfl⟩
end Go.Proofs.YtiajboiobjfcoaaGreatDoor
