/-
  What is proved here: what pipes.Next returns, by what the transfers' Next return.
  Conditions: what these return.
-/
import Derived.Test.YthapmkbeolbmiaaGreatDoorQStore
namespace Go.Proofs.YthapmkbeolbmiaaGreatDoor
open Go.Proofs Go.RowKit

attribute [local go_sem] lt2 lt3 lt4 lt5

/-- a next transaction: if there is one, its endpoint is that one -/
def NextIs (f : FuncId) (args : Array Value) (ad : Option Int) (en : Int) (w : World) : Prop :=
  Calls Tryz.prog f args w fun e w' => Below w.heap.size w w' ∧ ∃ (a b p : Int) (tg is0 : Bool) (mx : Int) (A : Option Addr) (n c : Nat) (is : Bool), e = .returned (.tuple #[.agg #[.int .u8 a, .int .u8 b, .int .u8 p, .bool tg, .bool is0, .int .i64 mx, .slice A n c], .bool is]) ∧ (is = true → b = en ∧ ∀ a', ad = some a' → a = a')

set_option maxHeartbeats 4000000 in
set_option maxRecDepth 1000000 in
theorem pnext_ctl (ad en : Int) (inn : Bool) (mx per sp hu po : Int) (tg ha : Bool) (c0 c1 c2 c3 c4 c5 c6 c7 c8 c9 c10 c11 c12 b0 b1 b2 b3 b4 b5 b6 b7 b8 b9 b10 b11 b12 i0 i1 i2 i3 i4 i5 i6 r0 r1 : Value) (w : World)
    (hn : ∀ w', Below w.heap.size w w' → NextIs 65 #[.agg #[c0, c1, c2, c3, c4, c5, c6, c7, c8, c9, c10, c11, c12]] none en w') : NextIs 26 #[.agg #[.bool true, .int .u8 ad, .int .u8 en, .bool inn, .int .u8 0, .int .i64 mx, .int .i64 per, .int .u8 sp, .int .u8 hu, .int .u8 po, .bool tg, .bool ha, c0, c1, c2, c3, c4, c5, c6, c7, c8, c9, c10, c11, c12, b0, b1, b2, b3, b4, b5, b6, b7, b8, b9, b10, b11, b12, i0, i1, i2, i3, i4, i5, i6, r0, r1]] (some ad) en w := by
  go_enter Tryz.func26, Tryz.ntmps26
  go_wp2_with fail
  refine (hn _ ((((Below.refl w.heap.size w).alloc (Nat.le_refl _) _).alloc (by simp) _).alloc (by simp; omega) _)).mono ?_
  rintro e w' ⟨hb, a, b, p, tg', is0, mx', A, n, c, is, rfl, hab⟩
  have hX0 := heap_below (alloc3_0 w _ _ _) hb
  have hX1 := heap_below (alloc3_1 w _ _ _) hb
  have hX2 := heap_below (alloc3_2 w _ _ _) hb
  have hb0 := ((((Below.refl w.heap.size w).alloc (Nat.le_refl _) _).alloc (by simp) _).alloc (by simp; omega) _).trans (hb.mono (by simp; omega))
  clear hb hn
  cases is with
  | false =>
    go_wp2_with (guard_target =~ wpList _ _ _ (_ :: _) _ _; first
      | (refine wpList_store_row rfl (.tmp 4) (.tmp 25) 98 rfl (w.heap.size + 1 + 1) 0 98 _ _ #[.int .u8 a, .int .u8 b, .int .u8 p, .bool tg', .bool is0, .int .i64 mx', .slice A n c] rfl rfl hX2 (by kernel_rfl) (by simp) rfl rfl ?_; intro w3 hZ2 hW3; have hY1 := (hW3.other (w.heap.size + 1) (by omega)).trans hX1)
      | (refine wpList_store_row rfl (.tmp 2) (.tmp 37) 98 rfl (w.heap.size + 1) 0 98 _ _ #[.int .u8 0, .int .u8 0, .int .u8 0, .bool false, .bool false, .int .i64 0, .slice none 0 0] rfl rfl hY1 (by kernel_rfl) (by simp) rfl rfl ?_; intro w4 hZ1 hW4))
    exact ret_cell _ _ _ _ _ rfl rfl rfl hZ1 Tryz.underlying98 rfl (by kernel_rfl) rfl ⟨(hb0.trans (hW3.below (by omega))).trans (hW4.below (by omega)), _, _, _, _, _, _, _, _, _, _, rfl, fun h => by cases h⟩
  | true =>
    obtain ⟨rfl, _⟩ := hab rfl
    go_wp2_with (guard_target =~ wpList _ _ _ (_ :: _) _ _; first
      | (refine wpList_store_row rfl (.tmp 4) (.tmp 25) 98 rfl (w.heap.size + 1 + 1) 0 98 _ _ #[.int .u8 a, .int .u8 b, .int .u8 p, .bool tg', .bool is0, .int .i64 mx', .slice A n c] rfl rfl hX2 (by kernel_rfl) (by simp) rfl rfl ?_; intro w3 hZ2 hW3
         have hY1 := (hW3.other (w.heap.size + 1) (by omega)).trans hX1
         have hY0 := (hW3.other w.heap.size (by omega)).trans hX0
         have y0 := cell_of hY0 1
         have z0 := cell_of hZ2 0
         have f0 := frozen_of hZ2 0
         have hS := setCell_heap hZ2 0 (.int .u8 ad)
         have hS1 := ((Wrote.refl (w.heap.size + 1 + 1) w3).setCell 0 (.int .u8 ad))
         have hU1 := (hS1.other (w.heap.size + 1) (by omega)).trans hY1)
      | refine wpList_load_row rfl (.tmp 4) 98 rfl (w.heap.size + 1 + 1) 98 _ _ rfl hS Tryz.underlying98 rfl (by kernel_rfl) ?_
      | (refine wpList_store_row rfl (.tmp 2) (.tmp 42) 98 rfl (w.heap.size + 1) 0 98 _ _ #[.int .u8 ad, .int .u8 b, .int .u8 p, .bool tg', .bool is0, .int .i64 mx', .slice A n c] rfl rfl hU1 (by kernel_rfl) (by simp) rfl rfl ?_; intro w4 hZ1 hW4))
    exact ret_cell _ _ _ _ _ rfl rfl rfl hZ1 Tryz.underlying98 rfl (by kernel_rfl) rfl ⟨((hb0.trans (hW3.below (by omega))).trans (hS1.below (by omega))).trans (hW4.below (by omega)), _, _, _, _, _, _, _, _, _, _, rfl, fun _ => ⟨rfl, fun a' h => by cases h; rfl⟩⟩

set_option maxHeartbeats 4000000 in
set_option maxRecDepth 1000000 in
theorem pnext_iso (ad en : Int) (inn : Bool) (mx per sp hu po : Int) (tg ha : Bool) (c0 c1 c2 c3 c4 c5 c6 c7 c8 c9 c10 c11 c12 b0 b1 b2 b3 b4 b5 b6 b7 b8 b9 b10 b11 b12 i0 i1 i2 i3 i4 i5 i6 r0 r1 : Value) (w : World)
    (hn : ∀ w', Below w.heap.size w w' → NextIs 66 #[.agg #[i0, i1, i2, i3, i4, i5, i6]] none en w') : NextIs 26 #[.agg #[.bool true, .int .u8 ad, .int .u8 en, .bool inn, .int .u8 1, .int .i64 mx, .int .i64 per, .int .u8 sp, .int .u8 hu, .int .u8 po, .bool tg, .bool ha, c0, c1, c2, c3, c4, c5, c6, c7, c8, c9, c10, c11, c12, b0, b1, b2, b3, b4, b5, b6, b7, b8, b9, b10, b11, b12, i0, i1, i2, i3, i4, i5, i6, r0, r1]] (some ad) en w := by
  go_enter Tryz.func26, Tryz.ntmps26
  go_wp2_with fail
  refine (hn _ ((((Below.refl w.heap.size w).alloc (Nat.le_refl _) _).alloc (by simp) _).alloc (by simp; omega) _)).mono ?_
  rintro e w' ⟨hb, a, b, p, tg', is0, mx', A, n, c, is, rfl, hab⟩
  have hX0 := heap_below (alloc3_0 w _ _ _) hb
  have hX1 := heap_below (alloc3_1 w _ _ _) hb
  have hX2 := heap_below (alloc3_2 w _ _ _) hb
  have hb0 := ((((Below.refl w.heap.size w).alloc (Nat.le_refl _) _).alloc (by simp) _).alloc (by simp; omega) _).trans (hb.mono (by simp; omega))
  clear hb hn
  cases is with
  | false =>
    go_wp2_with (guard_target =~ wpList _ _ _ (_ :: _) _ _; first
      | (refine wpList_store_row rfl (.tmp 4) (.tmp 33) 98 rfl (w.heap.size + 1 + 1) 0 98 _ _ #[.int .u8 a, .int .u8 b, .int .u8 p, .bool tg', .bool is0, .int .i64 mx', .slice A n c] rfl rfl hX2 (by kernel_rfl) (by simp) rfl rfl ?_; intro w3 hZ2 hW3; have hY1 := (hW3.other (w.heap.size + 1) (by omega)).trans hX1)
      | (refine wpList_store_row rfl (.tmp 2) (.tmp 37) 98 rfl (w.heap.size + 1) 0 98 _ _ #[.int .u8 0, .int .u8 0, .int .u8 0, .bool false, .bool false, .int .i64 0, .slice none 0 0] rfl rfl hY1 (by kernel_rfl) (by simp) rfl rfl ?_; intro w4 hZ1 hW4))
    exact ret_cell _ _ _ _ _ rfl rfl rfl hZ1 Tryz.underlying98 rfl (by kernel_rfl) rfl ⟨(hb0.trans (hW3.below (by omega))).trans (hW4.below (by omega)), _, _, _, _, _, _, _, _, _, _, rfl, fun h => by cases h⟩
  | true =>
    obtain ⟨rfl, _⟩ := hab rfl
    go_wp2_with (guard_target =~ wpList _ _ _ (_ :: _) _ _; first
      | (refine wpList_store_row rfl (.tmp 4) (.tmp 33) 98 rfl (w.heap.size + 1 + 1) 0 98 _ _ #[.int .u8 a, .int .u8 b, .int .u8 p, .bool tg', .bool is0, .int .i64 mx', .slice A n c] rfl rfl hX2 (by kernel_rfl) (by simp) rfl rfl ?_; intro w3 hZ2 hW3
         have hY1 := (hW3.other (w.heap.size + 1) (by omega)).trans hX1
         have hY0 := (hW3.other w.heap.size (by omega)).trans hX0
         have y0 := cell_of hY0 1
         have z0 := cell_of hZ2 0
         have f0 := frozen_of hZ2 0
         have hS := setCell_heap hZ2 0 (.int .u8 ad)
         have hS1 := ((Wrote.refl (w.heap.size + 1 + 1) w3).setCell 0 (.int .u8 ad))
         have hU1 := (hS1.other (w.heap.size + 1) (by omega)).trans hY1)
      | refine wpList_load_row rfl (.tmp 4) 98 rfl (w.heap.size + 1 + 1) 98 _ _ rfl hS Tryz.underlying98 rfl (by kernel_rfl) ?_
      | (refine wpList_store_row rfl (.tmp 2) (.tmp 42) 98 rfl (w.heap.size + 1) 0 98 _ _ #[.int .u8 ad, .int .u8 b, .int .u8 p, .bool tg', .bool is0, .int .i64 mx', .slice A n c] rfl rfl hU1 (by kernel_rfl) (by simp) rfl rfl ?_; intro w4 hZ1 hW4))
    exact ret_cell _ _ _ _ _ rfl rfl rfl hZ1 Tryz.underlying98 rfl (by kernel_rfl) rfl ⟨((hb0.trans (hW3.below (by omega))).trans (hS1.below (by omega))).trans (hW4.below (by omega)), _, _, _, _, _, _, _, _, _, _, rfl, fun _ => ⟨rfl, fun a' h => by cases h; rfl⟩⟩

set_option maxHeartbeats 4000000 in
set_option maxRecDepth 1000000 in
theorem pnext_blk (ad en : Int) (inn : Bool) (k : Int) (mx per sp hu po : Int) (tg ha : Bool) (c0 c1 c2 c3 c4 c5 c6 c7 c8 c9 c10 c11 c12 b0 b1 b2 b3 b4 b5 b6 b7 b8 b9 b10 b11 b12 i0 i1 i2 i3 i4 i5 i6 r0 r1 : Value) (w : World) (k0 : (k == 0) = false) (k1 : (k == 1) = false)
    (hn : ∀ w', Below w.heap.size w w' → NextIs 67 #[.agg #[b0, b1, b2, b3, b4, b5, b6, b7, b8, b9, b10, b11, b12]] none en w') : NextIs 26 #[.agg #[.bool true, .int .u8 ad, .int .u8 en, .bool inn, .int .u8 k, .int .i64 mx, .int .i64 per, .int .u8 sp, .int .u8 hu, .int .u8 po, .bool tg, .bool ha, c0, c1, c2, c3, c4, c5, c6, c7, c8, c9, c10, c11, c12, b0, b1, b2, b3, b4, b5, b6, b7, b8, b9, b10, b11, b12, i0, i1, i2, i3, i4, i5, i6, r0, r1]] (some ad) en w := by
  go_enter Tryz.func26, Tryz.ntmps26
  go_wp2_with fail
  refine (hn _ ((((Below.refl w.heap.size w).alloc (Nat.le_refl _) _).alloc (by simp) _).alloc (by simp; omega) _)).mono ?_
  rintro e w' ⟨hb, a, b, p, tg', is0, mx', A, n, c, is, rfl, hab⟩
  have hX0 := heap_below (alloc3_0 w _ _ _) hb
  have hX1 := heap_below (alloc3_1 w _ _ _) hb
  have hX2 := heap_below (alloc3_2 w _ _ _) hb
  have hb0 := ((((Below.refl w.heap.size w).alloc (Nat.le_refl _) _).alloc (by simp) _).alloc (by simp; omega) _).trans (hb.mono (by simp; omega))
  clear hb hn
  cases is with
  | false =>
    go_wp2_with (guard_target =~ wpList _ _ _ (_ :: _) _ _; first
      | (refine wpList_store_row rfl (.tmp 4) (.tmp 17) 98 rfl (w.heap.size + 1 + 1) 0 98 _ _ #[.int .u8 a, .int .u8 b, .int .u8 p, .bool tg', .bool is0, .int .i64 mx', .slice A n c] rfl rfl hX2 (by kernel_rfl) (by simp) rfl rfl ?_; intro w3 hZ2 hW3; have hY1 := (hW3.other (w.heap.size + 1) (by omega)).trans hX1)
      | (refine wpList_store_row rfl (.tmp 2) (.tmp 37) 98 rfl (w.heap.size + 1) 0 98 _ _ #[.int .u8 0, .int .u8 0, .int .u8 0, .bool false, .bool false, .int .i64 0, .slice none 0 0] rfl rfl hY1 (by kernel_rfl) (by simp) rfl rfl ?_; intro w4 hZ1 hW4))
    exact ret_cell _ _ _ _ _ rfl rfl rfl hZ1 Tryz.underlying98 rfl (by kernel_rfl) rfl ⟨(hb0.trans (hW3.below (by omega))).trans (hW4.below (by omega)), _, _, _, _, _, _, _, _, _, _, rfl, fun h => by cases h⟩
  | true =>
    obtain ⟨rfl, _⟩ := hab rfl
    go_wp2_with (guard_target =~ wpList _ _ _ (_ :: _) _ _; first
      | (refine wpList_store_row rfl (.tmp 4) (.tmp 17) 98 rfl (w.heap.size + 1 + 1) 0 98 _ _ #[.int .u8 a, .int .u8 b, .int .u8 p, .bool tg', .bool is0, .int .i64 mx', .slice A n c] rfl rfl hX2 (by kernel_rfl) (by simp) rfl rfl ?_; intro w3 hZ2 hW3
         have hY1 := (hW3.other (w.heap.size + 1) (by omega)).trans hX1
         have hY0 := (hW3.other w.heap.size (by omega)).trans hX0
         have y0 := cell_of hY0 1
         have z0 := cell_of hZ2 0
         have f0 := frozen_of hZ2 0
         have hS := setCell_heap hZ2 0 (.int .u8 ad)
         have hS1 := ((Wrote.refl (w.heap.size + 1 + 1) w3).setCell 0 (.int .u8 ad))
         have hU1 := (hS1.other (w.heap.size + 1) (by omega)).trans hY1)
      | refine wpList_load_row rfl (.tmp 4) 98 rfl (w.heap.size + 1 + 1) 98 _ _ rfl hS Tryz.underlying98 rfl (by kernel_rfl) ?_
      | (refine wpList_store_row rfl (.tmp 2) (.tmp 42) 98 rfl (w.heap.size + 1) 0 98 _ _ #[.int .u8 ad, .int .u8 b, .int .u8 p, .bool tg', .bool is0, .int .i64 mx', .slice A n c] rfl rfl hU1 (by kernel_rfl) (by simp) rfl rfl ?_; intro w4 hZ1 hW4))
    exact ret_cell _ _ _ _ _ rfl rfl rfl hZ1 Tryz.underlying98 rfl (by kernel_rfl) rfl ⟨((hb0.trans (hW3.below (by omega))).trans (hS1.below (by omega))).trans (hW4.below (by omega)), _, _, _, _, _, _, _, _, _, _, rfl, fun _ => ⟨rfl, fun a' h => by cases h; rfl⟩⟩

end Go.Proofs.YthapmkbeolbmiaaGreatDoor
