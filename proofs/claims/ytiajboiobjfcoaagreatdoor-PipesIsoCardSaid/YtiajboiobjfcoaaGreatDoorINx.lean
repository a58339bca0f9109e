/-
  What is proved here: what periodics.Next returns, exactly, while packets are left.
  Conditions: what the packets' cells hold.
-/
import Derived.Test.YtiajboiobjfcoaaGreatDoorIBase
namespace Go.Proofs.YtiajboiobjfcoaaGreatDoor
open Go.Proofs Go.RowKit
attribute [local go_sem] lt2 lt3 lt4 lt5
set_option maxHeartbeats 2000000 in
set_option maxRecDepth 1000000 in
theorem pn_in (en mx m0 : Int) (many xn xc pn pc : Nat) (PA XA : Option Addr) (w : World) (hx : xn < many) :
  Calls Tryz.prog 36 #[.agg #[.bool true, .int .u8 en, .int .i64 mx, .slice PA pn pc, .int .i64 m0, .int .i64 (many : Int), .slice XA xn xc]] w fun e w' =>
   e = .returned (.tuple #[.agg #[.int .u8 0, .int .u8 en, .int .u8 9, .bool false, .bool true, .int .i64 mx, .slice none 0 0], .bool true]) ∧ Below w.heap.size w w' := by
 have hb2 : ∀ a b, Below w.heap.size w ((w.alloc a).alloc b) := fun a b => ((Below.refl w.heap.size w).alloc (Nat.le_refl _) a).alloc (by simp) b
 have q1 : ¬ (xn : Int) = (many : Int) := by omega
 have q2 : ((xn : Int) == (many : Int)) = false := by simp; omega
 go_enter Tryz.func36, Tryz.ntmps36
 go_upto_region 5 with fail
 have hR := alloc2_1 w (.cells #[.bool true, .int .u8 en, .int .i64 mx, .slice PA pn pc, .int .i64 m0, .int .i64 (many : Int), .slice XA xn xc] 52) (.cells #[.int .u8 0, .int .u8 0, .int .u8 0, .bool false, .bool false, .int .i64 0, .slice none 0 0] 80)
 go_wp2_with (guard_target =~ wpList _ _ _ (_ :: _) _ _; (refine wpList_store_row rfl (.tmp 2) (.tmp 22) 80 rfl (w.heap.size + 1) 0 80 _ _ #[.int .u8 0, .int .u8 en, .int .u8 9, .bool false, .bool true, .int .i64 mx, .slice none 0 0] rfl rfl hR (by kernel_rfl) (by simp) rfl rfl ?_; intro w5 hZ5 hW5))
 exact ret_cell _ _ _ _ _ rfl rfl rfl hZ5 Tryz.underlying80 rfl (by kernel_rfl) rfl ⟨rfl, (hb2 _ _).trans (hW5.below (by omega))⟩
theorem put7 {w : World} {g : Nat} {t : TypeId} {z0 z1 z2 z3 z4 z5 z6 : Value} (h : w.heap[g]? = some (.cells #[z0, z1, z2, z3, z4, z5, z6] t (0, 0))) (v0 v1 v2 v3 v4 v5 v6 : Value) :
  (((((((w.setCell ⟨g, 0, none⟩ v0).setCell ⟨g, 1, none⟩ v1).setCell ⟨g, 2, none⟩ v2).setCell ⟨g, 3, none⟩ v3).setCell ⟨g, 4, none⟩ v4).setCell ⟨g, 5, none⟩ v5).setCell ⟨g, 6, none⟩ v6).heap[g]? = some (.cells #[v0, v1, v2, v3, v4, v5, v6] t (0, 0)) ∧ Wrote g w (((((((w.setCell ⟨g, 0, none⟩ v0).setCell ⟨g, 1, none⟩ v1).setCell ⟨g, 2, none⟩ v2).setCell ⟨g, 3, none⟩ v3).setCell ⟨g, 4, none⟩ v4).setCell ⟨g, 5, none⟩ v5).setCell ⟨g, 6, none⟩ v6) := by
 have hP := ((((((((Put1.refl h).set 0 v0).set 1 v1).set 2 v2).set 3 v3).set 4 v4).set 5 v5).set 6 v6)
 exact ⟨by simpa using hP.heap, hP.wrote⟩
theorem heap_drew1 {w : World} {g : Nat} {o : Obj} (h : w.heap[g]? = some o) : w.drew.heap[g]? = some o := h
set_option maxHeartbeats 4000000 in
set_option maxRecDepth 1000000 in
theorem pn_out (en mx m0 : Int) (many xn xc pc : Nat) (PA XA : Option Addr) (vs : List Value) (bs : List (List Int)) (w : World) (hx : xn < many) (hA : Sls w PA many pc vs) (hb : B8s w vs bs) :
  Calls Tryz.prog 36 #[.agg #[.bool false, .int .u8 en, .int .i64 mx, .slice PA many pc, .int .i64 m0, .int .i64 (many : Int), .slice XA xn xc]] w fun e w' =>
   ∃ b g c, bs[xn]? = some b ∧ e = .returned (.tuple #[.agg #[.int .u8 0, .int .u8 en, .int .u8 1, .bool false, .bool true, .int .i64 0, .slice (some ⟨g, 0, none⟩) b.length c], .bool true]) ∧ F8 w' g b.length c b ∧ w.heap.size ≤ g ∧ Below w.heap.size w w' := by
 obtain ⟨a, Ak, nk, ck, b, rfl, eb, hck, huk, hnk, hnc⟩ := hA.elem hb hx
 have EB := Lib.hid eb
 clear eb
 have hb2 : ∀ a b, Below w.heap.size w ((w.alloc a).alloc b) := fun a b => ((Below.refl w.heap.size w).alloc (Nat.le_refl _) a).alloc (by simp) b
 have q1 : ¬ (xn : Int) = (many : Int) := by omega
 have q2 : ((xn : Int) == (many : Int)) = false := by simp; omega
 have q3 : (xn : Int) < (many : Int) := by omega
 go_enter Tryz.func36, Tryz.ntmps36
 go_upto_region 6 with fail
 obtain ⟨w1, hw1⟩ : ∃ w1, (w.alloc (.cells #[.bool false, .int .u8 en, .int .i64 mx, .slice (some a) many pc, .int .i64 m0, .int .i64 (many : Int), .slice XA xn xc] 52)).alloc (.cells #[.int .u8 0, .int .u8 0, .int .u8 0, .bool false, .bool false, .int .i64 0, .slice none 0 0] 80) = w1 := ⟨_, rfl⟩
 have hb1 : Below w.heap.size w w1 := by rw [← hw1]; exact hb2 _ _
 have hT1 : w1.heap[w.heap.size]? = some (.cells #[.bool false, .int .u8 en, .int .i64 mx, .slice (some a) many pc, .int .i64 m0, .int .i64 (many : Int), .slice XA xn xc] 52 (0, 0)) := by rw [← hw1]; exact alloc2_0 _ _ _
 have hR1 : w1.heap[w.heap.size + 1]? = some (.cells #[.int .u8 0, .int .u8 0, .int .u8 0, .bool false, .bool false, .int .i64 0, .slice none 0 0] 80 (0, 0)) := by rw [← hw1]; exact alloc2_1 _ _ _
 rw [hw1]
 clear hw1 hb2
 have t1 := cell_of hT1 1
 have t3 := cell_of hT1 3
 have hck1 := (hb1.cell (World.block_lt_of_cell? _ _ hck)).trans hck
 have huk1 := huk.below hb1
 clear hck huk
 go_region_with (go_at_call 55; refine (clone_p Ak nk ck b _ (huk1.drew) hnk).mono ?_; rintro e w2 ⟨g1, c1, rfl, hu1, hg1, hb3⟩; replace hb3 : Below w1.heap.size w1 w2 := below_undrew hb3; have hT2 := heap_below hT1 hb3; have hR2 := heap_below hR1 hb3; have s1 := cell_of hT2 1; have s3 := cell_of hT2 3; have z0 := cell_of hR2 0; have f0 := frozen_of hR2 0; have z1 := cell_of hR2 1; have f1 := frozen_of hR2 1; have z2 := cell_of hR2 2; have f2 := frozen_of hR2 2; have z3 := cell_of hR2 3; have f3 := frozen_of hR2 3; have z4 := cell_of hR2 4; have f4 := frozen_of hR2 4; have z5 := cell_of hR2 5; have f5 := frozen_of hR2 5; have z6 := cell_of hR2 6; have f6 := frozen_of hR2 6)
 all_goals
  have hP := put7 hR2 (.int .u8 0) (.int .u8 en) (.int .u8 1) (.bool false) (.bool true) (.int .i64 0) (.slice (some ⟨g1, 0, none⟩) b.length c1)
  generalize (((((((w2.setCell ⟨w.heap.size + 1, 0, none⟩ (.int .u8 0)).setCell ⟨w.heap.size + 1, 1, none⟩ (.int .u8 en)).setCell ⟨w.heap.size + 1, 2, none⟩ (.int .u8 1)).setCell ⟨w.heap.size + 1, 3, none⟩ (.bool false)).setCell ⟨w.heap.size + 1, 4, none⟩ (.bool true)).setCell ⟨w.heap.size + 1, 5, none⟩ (.int .i64 0)).setCell ⟨w.heap.size + 1, 6, none⟩ (.slice (some ⟨g1, 0, none⟩) b.length c1)) = w5 at hP ⊢
  have hZ5 := heap_drew1 hP.1
  have hW5 := hP.2
  clear hP
  go_wp2_with fail
  refine ret_cell _ _ _ _ _ rfl rfl rfl hZ5 Tryz.underlying80 rfl (by kernel_rfl) rfl ?_
  have hg1' : w1.heap.size ≤ g1 := hg1
  have hsz := (Array.getElem?_eq_some_iff.1 hR1).1
  refine ⟨b, g1, c1, EB.out, rfl, hu1.heap (fun o ho => (hW5.other g1 (by omega)).trans ho), by have := hb1.size; omega, (hb1.trans (hb3.mono hb1.size)).trans ⟨hW5.os, hW5.tape, hW5.output, Nat.le_of_eq hW5.size.symm, fun i hi => hW5.other i (by omega)⟩⟩
end Go.Proofs.YtiajboiobjfcoaaGreatDoor
