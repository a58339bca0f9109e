/-
  What is proved here: what controls.Start returns.
  Conditions: what the slice's cells hold.
-/
import Derived.Test.YthapmkbeolbmiaaGreatDoorQCtl
namespace Go.Proofs.YthapmkbeolbmiaaGreatDoor
open Go.Proofs Go.RowKit

attribute [local go_sem] lt2 lt3 lt4 lt5

/-- a control transfer at its beginning, as a value -/
def ctlV (t c v i l : Int) (X : Value) (mx : Int) : Value :=
  .agg #[.int .u8 1, .int .u8 t, .int .u8 c, .int .u16 v, .int .u16 i, .int .u16 l, X, .int .i64 mx, .bool true, .int .i64 0, .slice none 0 0, .int .i64 0, .int .i64 0]
def ctl0 : Value := .agg #[.int .u8 0, .int .u8 0, .int .u8 0, .int .u16 0, .int .u16 0, .int .u16 0, .slice none 0 0, .int .i64 0, .bool false, .int .i64 0, .slice none 0 0, .int .i64 0, .int .i64 0]

theorem put13 {w : World} {g : Nat} {t : TypeId} (o0 o1 o2 o3 o4 o5 o6 o7 o8 o9 o10 o11 o12 : Value) (h : w.heap[g]? = some (.cells #[o0, o1, o2, o3, o4, o5, o6, o7, o8, o9, o10, o11, o12] t (0, 0))) (v0 v1 v2 v3 v4 v5 v6 v7 v8 v9 v10 v11 v12 : Value) :
    Put1 g w ((((((((((((((w).setCell ⟨g, 0, none⟩ v0).setCell ⟨g, 1, none⟩ v1).setCell ⟨g, 2, none⟩ v2).setCell ⟨g, 3, none⟩ v3).setCell ⟨g, 4, none⟩ v4).setCell ⟨g, 5, none⟩ v5).setCell ⟨g, 6, none⟩ v6).setCell ⟨g, 7, none⟩ v7).setCell ⟨g, 8, none⟩ v8).setCell ⟨g, 9, none⟩ v9).setCell ⟨g, 10, none⟩ v10).setCell ⟨g, 11, none⟩ v11).setCell ⟨g, 12, none⟩ v12) #[v0, v1, v2, v3, v4, v5, v6, v7, v8, v9, v10, v11, v12] t := by
  have hz := (((((((((((((Put1.refl h).set 0 v0).set 1 v1).set 2 v2).set 3 v3).set 4 v4).set 5 v5).set 6 v6).set 7 v7).set 8 v8).set 9 v9).set 10 v10).set 11 v11).set 12 v12
  simp only [List.setIfInBounds_toArray, List.set_cons_zero, List.set_cons_succ] at hz
  exact hz

/-- what controls.Start is to return -/
def CStart (w : World) (t c v i l mx : Int) (e : Ending) (w' : World) : Prop :=
  Below w.heap.size w w' ∧ (e = .returned (.tuple #[ctl0, .int .i64 5]) ∨ ∃ g n cap, e = .returned (.tuple #[ctlV t c v i l (.slice (some ⟨g, 0, none⟩) n cap) mx, .int .i64 0]))

set_option maxHeartbeats 4000000 in
set_option maxRecDepth 1000000 in
theorem cstart (t c v i l : Int) (A : Option Addr) (n cap : Nat) (xs : List Int) (mx : Int) (w : World) (hR : ReqR t c v i l) (hx : U8 w A n cap xs) (hn : n ≤ 100) (hmx : mx = 8 ∨ mx = 16 ∨ mx = 32 ∨ mx = 64) :
    Calls Tryz.prog 62 #[reqV t c v i l, .slice A n cap, .int .i64 mx] w (CStart w t c v i l mx) := by
  have hf := fits_ok hmx
  have hwr := writes_any hR
  unfold reqV at hwr
  obtain ⟨_, _, _, _, hl0, hl1⟩ := hR
  clear hmx
  unfold reqV
  go_enter Tryz.func62, Tryz.ntmps62
  go_wp2_with fail
  refine (hf _).mono ?_
  rintro e w1 ⟨rfl, rfl⟩
  go_wp2_with fail
  refine (hwr _).mono ?_
  rintro e w2 ⟨b, rfl, hb2⟩
  have hX0 := heap_below (alloc2_0 w _ _) hb2
  have hX1 := heap_below (alloc2_1 w _ _) hb2
  have hb := (((Below.refl w.heap.size w).alloc (Nat.le_refl _) _).alloc (by simp) _).trans (hb2.mono (by simp; omega))
  have z4 := cell_of hX0 4
  clear hb2 hf hwr
  obtain ⟨m, hm⟩ : ∃ m : Int, (if b then l else 0) = m := ⟨_, rfl⟩
  go_upto_if 14 with fail
  go_cut [8] (fun s wx => s = .int .i64 m ∧ wx = w2)
  case first =>
    cases b
    all_goals
      go_wp2_with fail
      go_meet
      simp at hm
      subst hm
      exact ⟨rfl, rfl⟩
  case rest =>
    obtain ⟨rfl, rfl⟩ := hcut
    by_cases hl : ((n : Int) != m) = true
    · go_wp2_with (guard_target =~ wpList _ _ _ (_ :: _) _ _; refine wpList_store_row rfl (.tmp 6) (.tmp 22) 82 rfl (w.heap.size + 1) 0 82 _ _ #[.int .u8 0, .int .u8 0, .int .u8 0, .int .u16 0, .int .u16 0, .int .u16 0, .slice none 0 0, .int .i64 0, .bool false, .int .i64 0, .slice none 0 0, .int .i64 0, .int .i64 0] rfl rfl hX1 (by kernel_rfl) (by simp) rfl rfl ?_; intro w3 hY1 hW3)
      exact ret_cell _ _ _ _ _ rfl rfl rfl hY1 Tryz.underlying82 rfl (by kernel_rfl) rfl ⟨hb.trans (hW3.below (by omega)), .inl rfl⟩
    · have hl : ((n : Int) != m) = false := by simpa using hl
      have hx2 := (hx.below hb).drew
      have hc := cell_of hX0
      have a0 := hc 0
      have a1 := hc 1
      have a2 := hc 2
      have a3 := hc 3
      have a4 := hc 4
      clear hc
      go_wp2_with fail
      go_region_law
        (first
          | (go_simp; go_at_call 116; refine (clone_c A n cap xs _ hx2 (by omega)).mono ?_; rintro e w4 ⟨g, cp, rfl, hu, hg, hb4⟩; replace hb4 := below_undrew hb4
             have hY0 := heap_below hX0 hb4
             have hY1 := heap_below hX1 hb4
             have hc := cell_of hY0
             have a0 := hc 0
             have a1 := hc 1
             have a2 := hc 2
             have a3 := hc 3
             have a4 := hc 4
             have hd := cell_of hY1
             have hf := frozen_of hY1
             have d0 := hd 0
             have d1 := hd 1
             have d2 := hd 2
             have d3 := hd 3
             have d4 := hd 4
             have d5 := hd 5
             have d6 := hd 6
             have d7 := hd 7
             have d8 := hd 8
             have d9 := hd 9
             have d10 := hd 10
             have d11 := hd 11
             have d12 := hd 12
             clear hc hd))
      all_goals
        go_wp2_with fail
        have hz := put13 _ _ _ _ _ _ _ _ _ _ _ _ _ hY1 (.int .u8 1) (.int .u8 t) (.int .u8 c) (.int .u16 v) (.int .u16 i) (.int .u16 l) (.slice (some ⟨g, 0, none⟩) xs.length cp) (.int .i64 mx) (.bool true) (.int .i64 0) (.slice none 0 0) (.int .i64 0) (.int .i64 0)
        refine ret_cell (w.heap.size + 1) 82 _ _ _ rfl rfl rfl hz.heap Tryz.underlying82 rfl (by kernel_rfl) rfl ⟨(hb.trans (hb4.mono hb.size)).trans (hz.wrote.below (by omega)), .inr ⟨g, xs.length, cp, rfl⟩⟩
end Go.Proofs.YthapmkbeolbmiaaGreatDoor
