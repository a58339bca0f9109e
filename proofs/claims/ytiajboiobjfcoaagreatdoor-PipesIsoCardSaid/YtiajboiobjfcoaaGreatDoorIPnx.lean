/-
  What is proved here: what pipes.Next returns for an isochronous work with a packet left, exactly.
  Conditions: what periodics.Next returns.
-/
import Derived.Test.YtiajboiobjfcoaaGreatDoorINx
import Derived.Test.YtiajboiobjfcoaaGreatDoorICopy
namespace Go.Proofs.YtiajboiobjfcoaaGreatDoor
open Go.Proofs Go.RowKit
attribute [local go_sem] lt2 lt3 lt4 lt5
def Pl (A : Option Addr) (n : Nat) : Prop := n = 0 ∨ ∃ g o, A = some ⟨g, o, none⟩
set_option maxHeartbeats 4000000 in
set_option maxRecDepth 1000000 in
theorem pipe_next (ad en : Int) (inn : Bool) (mx per sp hu po : Int) (tg ha : Bool) (c0 c1 c2 c3 c4 c5 c6 c7 c8 c9 c10 c11 c12 b0 b1 b2 b3 b4 b5 b6 b7 b8 b9 b10 b11 b12 i0 i1 i2 i3 i4 i5 i6 r0 r1 : Value) (b p : Int) (tg' is0 : Bool) (mx' : Int) (xs : List Int) (w : World)
    (hn : ∀ w', Below w.heap.size w w' → Calls Tryz.prog 36 #[.agg #[i0, i1, i2, i3, i4, i5, i6]] w' fun e w2 => Below w'.heap.size w' w2 ∧ ∃ A n c, e = .returned (.tuple #[.agg #[.int .u8 0, .int .u8 b, .int .u8 p, .bool tg', .bool is0, .int .i64 mx', .slice A n c], .bool true]) ∧ New8 w' w2 A n c xs ∧ Pl A n) :
    Calls Tryz.prog 18 #[.agg #[.bool true, .int .u8 ad, .int .u8 en, .bool inn, .int .u8 1, .int .i64 mx, .int .i64 per, .int .u8 sp, .int .u8 hu, .int .u8 po, .bool tg, .bool ha, c0, c1, c2, c3, c4, c5, c6, c7, c8, c9, c10, c11, c12, b0, b1, b2, b3, b4, b5, b6, b7, b8, b9, b10, b11, b12, i0, i1, i2, i3, i4, i5, i6, r0, r1]] w fun e w2 => Below w.heap.size w w2 ∧ ∃ A n c, e = .returned (.tuple #[.agg #[.int .u8 ad, .int .u8 b, .int .u8 p, .bool tg', .bool is0, .int .i64 mx', .slice A n c], .bool true]) ∧ New8 w w2 A n c xs ∧ Pl A n := by
  go_enter Tryz.func18, Tryz.ntmps18
  go_wp2_with fail
  refine (hn _ ((((Below.refl w.heap.size w).alloc (Nat.le_refl _) _).alloc (by simp) _).alloc (by simp; omega) _)).mono ?_
  rintro e w' ⟨hb, A, n, c, rfl, hN, hPl⟩
  have HPL := Lib.hid hPl
  clear hPl
  have hX0 := heap_below (alloc3_0 w _ _ _) hb
  have hX1 := heap_below (alloc3_1 w _ _ _) hb
  have hX2 := heap_below (alloc3_2 w _ _ _) hb
  have hb0 := ((((Below.refl w.heap.size w).alloc (Nat.le_refl _) _).alloc (by simp) _).alloc (by simp; omega) _).trans (hb.mono (by simp; omega))
  have hfar : n = 0 ∨ ∃ a, A = some a ∧ w.heap.size + 1 + 1 + 1 ≤ a.block := hN.2.imp id fun ⟨a, e, h⟩ => ⟨a, e, by simpa using h⟩
  have hu := hN.1
  clear hb hn hN
  go_wp2_with (guard_target =~ wpList _ _ _ (_ :: _) _ _; first
    | (refine wpList_store_row rfl (.tmp 4) (.tmp 33) 80 rfl (w.heap.size + 1 + 1) 0 80 _ _ #[.int .u8 0, .int .u8 b, .int .u8 p, .bool tg', .bool is0, .int .i64 mx', .slice A n c] rfl rfl hX2 (by kernel_rfl) (by simp) rfl rfl ?_; intro w3 hZ2 hW3
       have hY1 := (hW3.other (w.heap.size + 1) (by omega)).trans hX1
       have hY0 := (hW3.other w.heap.size (by omega)).trans hX0
       have y0 := cell_of hY0 1
       have z0 := cell_of hZ2 0
       have f0 := frozen_of hZ2 0
       have hS := setCell_heap hZ2 0 (.int .u8 ad)
       have hS1 := ((Wrote.refl (w.heap.size + 1 + 1) w3).setCell 0 (.int .u8 ad))
       have hU1 := (hS1.other (w.heap.size + 1) (by omega)).trans hY1)
    | refine wpList_load_row rfl (.tmp 4) 80 rfl (w.heap.size + 1 + 1) 80 _ _ rfl hS Tryz.underlying80 rfl (by kernel_rfl) ?_
    | (refine wpList_store_row rfl (.tmp 2) (.tmp 42) 80 rfl (w.heap.size + 1) 0 80 _ _ #[.int .u8 ad, .int .u8 b, .int .u8 p, .bool tg', .bool is0, .int .i64 mx', .slice A n c] rfl rfl hU1 (by kernel_rfl) (by simp) rfl rfl ?_; intro w4 hZ1 hW4))
  exact ret_cell _ _ _ _ _ rfl rfl rfl hZ1 Tryz.underlying80 rfl (by kernel_rfl) rfl ⟨((hb0.trans (hW3.below (by omega))).trans (hS1.below (by omega))).trans (hW4.below (by omega)), A, n, c, rfl,
    ⟨((hu.wrote hW3 (hfar.imp id fun ⟨a, e, h⟩ => ⟨a, e, by omega⟩)).wrote hS1 (hfar.imp id fun ⟨a, e, h⟩ => ⟨a, e, by omega⟩)).wrote hW4 (hfar.imp id fun ⟨a, e, h⟩ => ⟨a, e, by omega⟩), hfar.imp id fun ⟨a, e, h⟩ => ⟨a, e, by omega⟩⟩, HPL.out⟩
end Go.Proofs.YtiajboiobjfcoaaGreatDoor
