/-
  What is proved here: what controls.Next and periodics.Next return at the beginning of a transfer.
  Conditions: what the transfer's lists hold.
-/
import Derived.Test.YthapmkbeolbmiaaGreatDoorQNext
import Derived.Test.YthapmkbeolbmiaaGreatDoorQCs
import Derived.Test.YthapmkbeolbmiaaGreatDoorQStart
namespace Go.Proofs.YthapmkbeolbmiaaGreatDoor
open Go.Proofs Go.RowKit

attribute [local go_sem] lt2 lt3 lt4 lt5

theorem put7 {w : World} {g : Nat} {t : TypeId} (o0 o1 o2 o3 o4 o5 o6 : Value) (h : w.heap[g]? = some (.cells #[o0, o1, o2, o3, o4, o5, o6] t (0, 0))) (v0 v1 v2 v3 v4 v5 v6 : Value) :
    Put1 g w (((((((w.setCell ⟨g, 0, none⟩ v0).setCell ⟨g, 1, none⟩ v1).setCell ⟨g, 2, none⟩ v2).setCell ⟨g, 3, none⟩ v3).setCell ⟨g, 4, none⟩ v4).setCell ⟨g, 5, none⟩ v5).setCell ⟨g, 6, none⟩ v6) #[v0, v1, v2, v3, v4, v5, v6] t := by
  have hz := (((((((Put1.refl h).set 0 v0).set 1 v1).set 2 v2).set 3 v3).set 4 v4).set 5 v5).set 6 v6
  simp only [List.setIfInBounds_toArray, List.set_cons_zero, List.set_cons_succ] at hz
  exact hz

set_option maxHeartbeats 4000000 in
set_option maxRecDepth 1000000 in
theorem cnext (t c v i l : Int) (X : Value) (mx : Int) (w : World) (hR : ReqR t c v i l) : NextIs 65 #[ctlV t c v i l X mx] none 0 w := by
  have hs := split_sl hR
  unfold reqV at hs
  unfold ctlV
  go_enter Tryz.func65, Tryz.ntmps65
  go_wp2_with fail
  refine (hs _).mono ?_
  rintro e w1 ⟨g, n, cap, rfl, hb1⟩
  have hX1 := heap_below (alloc2_1 w _ _) hb1
  have hb := (((Below.refl w.heap.size w).alloc (Nat.le_refl _) _).alloc (by simp) _).trans (hb1.mono (by simp; omega))
  go_wp2_with (guard_target =~ wpList _ _ _ (_ :: _) _ _; refine wpList_store_row rfl (.tmp 2) (.tmp 11) 98 rfl (w.heap.size + 1) 0 98 _ _ #[.int .u8 0, .int .u8 0, .int .u8 13, .bool false, .bool false, .int .i64 0, .slice g n cap] rfl rfl hX1 (by kernel_rfl) (by simp) rfl rfl ?_; intro w3 hY1 hW3)
  exact ret_cell _ _ _ _ _ rfl rfl rfl hY1 Tryz.underlying98 rfl (by kernel_rfl) rfl ⟨hb.trans (hW3.below (by omega)), _, _, _, _, _, _, _, _, _, _, rfl, fun _ => ⟨rfl, fun _ h => by cases h⟩⟩

set_option maxHeartbeats 4000000 in
set_option maxRecDepth 1000000 in
theorem pnext_in (en mx m : Int) (w : World) (hm : ((0 : Int) == m) = false) : NextIs 66 #[.agg #[.bool true, .int .u8 en, .int .i64 mx, .slice none 0 0, .int .i64 m, .int .i64 m, .slice none 0 0]] none en w := by
  go_enter Tryz.func66, Tryz.ntmps66
  have hb := ((Below.refl w.heap.size w).alloc (Nat.le_refl _) (.cells #[.bool true, .int .u8 en, .int .i64 mx, .slice none 0 0, .int .i64 m, .int .i64 m, .slice none 0 0] 91)).alloc (by simp) (.cells #[.int .u8 0, .int .u8 en, .int .u8 9, .bool false, .bool true, .int .i64 mx, .slice none 0 0] 98)
  go_wp2_with fail
  exact ret_cell _ _ _ _ _ rfl rfl rfl (alloc2_1 w _ _) Tryz.underlying98 rfl (by kernel_rfl) rfl ⟨hb, _, _, _, _, _, _, _, _, _, _, rfl, fun _ => ⟨rfl, fun _ h => by cases h⟩⟩

set_option maxHeartbeats 4000000 in
set_option maxRecDepth 1000000 in
theorem pnext_out (en mx : Int) (B n : Nat) (v : Value) (us : List Value) (bs : List (List Int)) (w : World) (hown : w.ownsRow B 30 1 v n us) (hel : Els w us bs) (h1 : 1 ≤ n) (hbl : ∀ b ∈ bs, b.length ≤ 65536) :
    NextIs 66 #[.agg #[.bool false, .int .u8 en, .int .i64 mx, v, .int .i64 0, .int .i64 n, .slice none 0 0]] none en w := by
  obtain ⟨g, cap, rfl, hg, hglt⟩ := hown.form (by omega)
  have hnc : n ≤ cap := by
    rcases hown.2 with ⟨h, _⟩ | ⟨g', cap', cur, h, _, _, hc, _⟩
    · cases h
    · injection h with _ _ h; subst h; exact hc
  have hul : us.length = n := by have := hown.1; simpa using this
  have hc := hown.cellAt 0 (by omega)
  obtain ⟨b, hb0⟩ : ∃ b, bs[0]? = some b := ⟨bs[0]'(by rw [← hel.1]; omega), List.getElem?_eq_getElem _⟩
  obtain ⟨u, hu0⟩ : ∃ u, us[0]? = some u := ⟨us[0]'(by omega), List.getElem?_eq_getElem _⟩
  obtain ⟨g1, c1, rfl, hf⟩ := hel.2 0 u b hu0 hb0
  rw [hu0] at hc
  have hlen := hbl b (List.mem_of_getElem? hb0)
  have q1 : ((0 : Int) == (n : Int)) = false := by simp; omega
  have q2 : 0 < n := by omega
  have hu := hf.u8
  have hc : w.cell? ⟨g, 0, none⟩ = some (.slice (some ⟨g1, 0, none⟩) b.length c1) := hc
  clear hown hel hbl hb0 hu0 hf
  have hb := ((Below.refl w.heap.size w).alloc (Nat.le_refl _) (.cells #[.bool false, .int .u8 en, .int .i64 mx, .slice (some ⟨g, 0, none⟩) n cap, .int .i64 0, .int .i64 n, .slice none 0 0] 91)).alloc (by simp) (.cells #[.int .u8 0, .int .u8 0, .int .u8 0, .bool false, .bool false, .int .i64 0, .slice none 0 0] 98)
  have hX0 := alloc2_0 w (.cells #[.bool false, .int .u8 en, .int .i64 mx, .slice (some ⟨g, 0, none⟩) n cap, .int .i64 0, .int .i64 n, .slice none 0 0] 91) (.cells #[.int .u8 0, .int .u8 0, .int .u8 0, .bool false, .bool false, .int .i64 0, .slice none 0 0] 98)
  have hX1 := alloc2_1 w (.cells #[.bool false, .int .u8 en, .int .i64 mx, .slice (some ⟨g, 0, none⟩) n cap, .int .i64 0, .int .i64 n, .slice none 0 0] 91) (.cells #[.int .u8 0, .int .u8 0, .int .u8 0, .bool false, .bool false, .int .i64 0, .slice none 0 0] 98)
  have hc0 := (hb.cell (World.block_lt_of_cell? _ _ hc)).trans hc
  have hu2 := (hu.below hb).drew
  go_enter Tryz.func66, Tryz.ntmps66
  go_wp2_with fail
  have k1 := cell_of hX0 1
  have k3 := cell_of hX0 3
  go_region_law
    (first
      | (go_simp; go_at_call 117; refine (clone_p (some ⟨g1, 0, none⟩) b.length c1 b _ hu2 hlen).mono ?_; rintro e w4 ⟨g2, cp, rfl, hu4, hg4, hb4⟩; replace hb4 := below_undrew hb4
         have hY0 := heap_below hX0 hb4
         have hY1 := heap_below hX1 hb4
         have m1 := cell_of hY0 1
         have m3 := cell_of hY0 3
         have m0 := (hb4.cell (World.block_lt_of_cell? _ _ hc0)).trans hc0
         have hd := cell_of hY1
         have hf := frozen_of hY1
         have d0 := hd 0
         have d1 := hd 1
         have d2 := hd 2
         have d3 := hd 3
         have d4 := hd 4
         have d5 := hd 5
         have d6 := hd 6
         clear hd))
  all_goals
    go_wp2_with fail
    have hz := put7 _ _ _ _ _ _ _ hY1 (.int .u8 0) (.int .u8 en) (.int .u8 1) (.bool false) (.bool true) (.int .i64 0) (.slice (some ⟨g2, 0, none⟩) b.length cp)
    exact ret_cell (w.heap.size + 1) 98 _ _ _ rfl rfl rfl hz.heap Tryz.underlying98 rfl (by kernel_rfl) rfl ⟨(hb.trans (hb4.mono hb.size)).trans (hz.wrote.below (by omega)), _, _, _, _, _, _, _, _, _, _, rfl, fun _ => ⟨rfl, fun _ h => by cases h⟩⟩
end Go.Proofs.YthapmkbeolbmiaaGreatDoor
