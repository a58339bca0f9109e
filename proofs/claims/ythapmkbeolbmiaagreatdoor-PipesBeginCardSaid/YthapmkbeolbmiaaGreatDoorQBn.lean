/-
  What is proved here: what bulks.Next returns at the beginning of a transfer.
  Conditions: what the transfer's list holds.
-/
import Derived.Test.YthapmkbeolbmiaaGreatDoorQBk
namespace Go.Proofs.YthapmkbeolbmiaaGreatDoor
open Go.Proofs Go.RowKit

attribute [local go_sem] lt2 lt3 lt4 lt5

set_option maxHeartbeats 4000000 in
set_option maxRecDepth 1000000 in
theorem idle_any (g : Nat) (p0 : Bool) (p1 p2 : Int) (p3 : Bool) (p4 : Value) (p5 : Bool) (p6 : Int) (l gt : Value) (ac er : Int) (ov : Bool) (e : Int) (t : TypeId) (w : World) (hm : (p2 == 0) = false)
    (hg : w.heap[g]? = some (.cells #[.bool p0, .int .u8 p1, .int .i64 p2, .bool p3, p4, .bool p5, .int .i64 p6, l, gt, .int .i64 ac, .int .i64 er, .bool ov, .int .i64 e] t (0, 0))) :
    Calls Tryz.prog 121 #[.pointer (some ⟨g, 0, none⟩)] w fun e w' => e = .returned (.bool ov) ∧ w' = w := by
  have c11 := cell_of hg 11
  have c2 := cell_of hg 2
  have hlt : g < w.heap.size := (Array.getElem?_eq_some_iff.1 hg).1
  go_enter Tryz.func121, Tryz.ntmps121
  cases ov
  all_goals
    go_wp2_with fail
    go_ret
    exact ⟨rfl, rfl⟩

set_option maxHeartbeats 4000000 in
set_option maxRecDepth 1000000 in
theorem bnext_in (en mx : Int) (tg ov : Bool) (len : Int) (w : World) (hm : (mx == 0) = false) :
    NextIs 67 #[.agg #[.bool true, .int .u8 en, .int .i64 mx, .bool tg, .slice none 0 0, .bool false, .int .i64 len, .slice none 0 0, .slice none 0 0, .int .i64 0, .int .i64 0, .bool ov, .int .i64 0]] none en w := by
  have hi := fun a => idle_any w.heap.size true en mx tg (.slice none 0 0) false len (.slice none 0 0) (.slice none 0 0) 0 0 ov 0 86 _ hm (alloc2_0 w _ a)
  have hb : ∀ a b, Below w.heap.size w ((w.alloc a).alloc b) := fun a b => ((Below.refl w.heap.size w).alloc (Nat.le_refl _) a).alloc (by simp) b
  go_enter Tryz.func67, Tryz.ntmps67
  go_wp2_with fail
  refine (hi _).mono ?_
  rintro e w1 ⟨rfl, rfl⟩
  cases ov with
  | true =>
    go_wp2_with fail
    exact ret_cell _ _ _ _ _ rfl rfl rfl (alloc2_1 w _ _) Tryz.underlying98 rfl (by kernel_rfl) rfl ⟨hb _ _, _, _, _, _, _, _, _, _, _, _, rfl, fun h => by cases h⟩
  | false =>
    go_wp2_with fail
    go_region
    all_goals
      go_wp2_with fail
      exact ret_cell (w.heap.size + 1) 98 _ _ _ rfl rfl rfl (alloc3_1 w _ _ _) Tryz.underlying98 rfl (by kernel_rfl) rfl ⟨((hb _ _).alloc (by simp; omega) _).drew, _, _, _, _, _, _, _, _, _, _, rfl, fun _ => ⟨rfl, fun _ h => by cases h⟩⟩

set_option maxHeartbeats 4000000 in
set_option maxRecDepth 1000000 in
theorem bnext_out (en mx : Int) (tg z : Bool) (B g m cap : Nat) (us : List Value) (bs : List (List Int)) (w : World) (hm : (mx == 0) = false) (h1 : 1 ≤ m) (hown : w.ownsRow B 30 1 (.slice (some ⟨g, 0, none⟩) m cap) m us) (hel : Els w us bs) (hbl : ∀ b ∈ bs, b.length ≤ 65536) :
    NextIs 67 #[.agg #[.bool false, .int .u8 en, .int .i64 mx, .bool tg, .slice none 0 0, .bool z, .int .i64 0, .slice (some ⟨g, 0, none⟩) m m, .slice none 0 0, .int .i64 0, .int .i64 0, .bool false, .int .i64 0]] none en w := by
  have hul : us.length = m := by have := hown.1; simpa using this
  have hc := hown.cellAt 0 (by omega)
  obtain ⟨b, hb0⟩ : ∃ b, bs[0]? = some b := ⟨bs[0]'(by rw [← hel.1]; omega), List.getElem?_eq_getElem _⟩
  obtain ⟨u, hu0⟩ : ∃ u, us[0]? = some u := ⟨us[0]'(by omega), List.getElem?_eq_getElem _⟩
  obtain ⟨g1, c1, rfl, hf⟩ := hel.2 0 u b hu0 hb0
  rw [hu0] at hc
  have hlen := hbl b (List.mem_of_getElem? hb0)
  have q2 : 0 < m := by omega
  have hu := hf.u8
  have hc : w.cell? ⟨g, 0, none⟩ = some (.slice (some ⟨g1, 0, none⟩) b.length c1) := hc
  have hi := fun a => idle_any w.heap.size false en mx tg (.slice none 0 0) z 0 (.slice (some ⟨g, 0, none⟩) m m) (.slice none 0 0) 0 0 false 0 86 _ hm (alloc2_0 w _ a)
  have hb : ∀ a b, Below w.heap.size w ((w.alloc a).alloc b) := fun a b => ((Below.refl w.heap.size w).alloc (Nat.le_refl _) a).alloc (by simp) b
  have hb3 : ∀ a b c : Obj, Below w.heap.size w (((w.alloc a).alloc b).alloc c) := fun a b c => (hb a b).alloc (by simp; omega) c
  have hc3 : ∀ o1 o2 o3 : Obj, (((w.alloc o1).alloc o2).alloc o3).cell? ⟨g, 0, none⟩ = some (.slice (some ⟨g1, 0, none⟩) b.length c1) := fun o1 o2 o3 => ((hb3 o1 o2 o3).cell (World.block_lt_of_cell? _ _ hc)).trans hc
  clear hown hel hbl hb0 hu0 hf
  go_enter Tryz.func67, Tryz.ntmps67
  go_wp2_with fail
  refine (hi _).mono ?_
  rintro e w1 ⟨rfl, rfl⟩
  clear hi
  go_wp2_with fail
  refine (clone_x _ _ _ _ _ (hu.below (hb3 _ _ _)) hlen).mono ?_
  rintro e w2 ⟨g2, cp, rfl, hf2, hg2, hb2⟩
  have hX1 := heap_below (alloc3_1 w _ _ _) hb2
  have hX2 := heap_below (alloc3_2 w _ _ _) hb2
  have hw2 := (hb3 _ _ _).trans (hb2.mono (by simp; omega))
  clear hb2 hc3 hb hb3
  have z6 := cell_of hX2 6
  have f6 := frozen_of hX2 6
  have hS := setCell_heap hX2 6 (.slice (some ⟨g2, 0, none⟩) b.length cp)
  have hS1 := (Wrote.refl (w.heap.size + 1 + 1) w2).setCell 6 (.slice (some ⟨g2, 0, none⟩) b.length cp)
  have hU1 := (hS1.other (w.heap.size + 1) (by omega)).trans hX1
  go_wp2_with (guard_target =~ wpList _ _ _ (_ :: _) _ _; first
    | refine wpList_load_row rfl (.tmp 4) 98 rfl (w.heap.size + 1 + 1) 98 _ _ rfl hS Tryz.underlying98 rfl (by kernel_rfl) ?_
    | (refine wpList_store_row rfl (.tmp 2) (.tmp 28) 98 rfl (w.heap.size + 1) 0 98 _ _ #[.int .u8 0, .int .u8 en, .int .u8 1, .bool tg, .bool false, .int .i64 0, .slice (some ⟨g2, 0, none⟩) b.length cp] rfl rfl hU1 (by kernel_rfl) (by simp) rfl rfl ?_; intro w4 hZ1 hW4))
  exact ret_cell _ _ _ _ _ rfl rfl rfl hZ1 Tryz.underlying98 rfl (by kernel_rfl) rfl ⟨(hw2.trans (hS1.below (by omega))).trans (hW4.below (by omega)), _, _, _, _, _, _, _, _, _, _, rfl, fun _ => ⟨rfl, fun _ h => by cases h⟩⟩
end Go.Proofs.YthapmkbeolbmiaaGreatDoor
