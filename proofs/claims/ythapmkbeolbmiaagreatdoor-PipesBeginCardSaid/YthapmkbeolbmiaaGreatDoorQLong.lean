/-
  What is proved here: what pipes.Begin returns where a job is too great; what pipes.Next returns where there is no work; what pipes.Clear returns.
  Conditions: what the parts return.
-/
import Derived.Test.YthapmkbeolbmiaaGreatDoorQEnd
import Derived.Test.YthapmkbeolbmiaaGreatDoorQBeg
namespace Go.Proofs.YthapmkbeolbmiaaGreatDoor
open Go.Proofs Go.RowKit Go.Sy

attribute [local go_sem] lt2 lt3 lt4 lt5

set_option maxHeartbeats 4000000 in
set_option maxRecDepth 1000000 in
theorem begin_long (ad en : Int) (inn : Bool) (k mx per sp hu po : Int) (tg : Bool) (t c v i l : Int) (dA : Option Addr) (dn dc : Nat) (len : Int) (z : Bool) (pA : Option Addr) (pn pc : Nat) (m : Int) (w : World) (R : Ending → World → Prop) (hR : ∀ w2, Below w.heap.size w w2 → R (.returned (.tuple #[noWorkV, .int .i64 3])) w2)
    (hchk : Ret 21 #[.agg #[.int .u8 ad, .int .u8 en, .bool inn, .int .u8 k, .int .i64 mx, .int .i64 per, .int .u8 sp, .int .u8 hu, .int .u8 po, .bool tg, .bool false]] (.int .i64 0))
    (hstr : Ret 60 #[.agg #[.int .u8 t, .int .u8 c, .int .u16 v, .int .u16 i, .int .u16 l, .slice dA dn dc, .int .i64 len, .bool z, .slice pA pn pc, .int .i64 m], .agg #[.int .u8 ad, .int .u8 en, .bool inn, .int .u8 k, .int .i64 mx, .int .i64 per, .int .u8 sp, .int .u8 hu, .int .u8 po, .bool tg, .bool false]] (.bool false))
    (hgr : ∀ w', Below w.heap.size w w' → Calls Tryz.prog 61 #[.agg #[.int .u8 t, .int .u8 c, .int .u16 v, .int .u16 i, .int .u16 l, .slice dA dn dc, .int .i64 len, .bool z, .slice pA pn pc, .int .i64 m], .agg #[.int .u8 ad, .int .u8 en, .bool inn, .int .u8 k, .int .i64 mx, .int .i64 per, .int .u8 sp, .int .u8 hu, .int .u8 po, .bool tg, .bool false]] w' fun e w2 => e = .returned (.bool true) ∧ Below w'.heap.size w' w2) :
    Calls Tryz.prog 25 #[.agg #[.int .u8 ad, .int .u8 en, .bool inn, .int .u8 k, .int .i64 mx, .int .i64 per, .int .u8 sp, .int .u8 hu, .int .u8 po, .bool tg, .bool false], .agg #[.int .u8 t, .int .u8 c, .int .u16 v, .int .u16 i, .int .u16 l, .slice dA dn dc, .int .i64 len, .bool z, .slice pA pn pc, .int .i64 m]] w R := by
  go_enter Tryz.func25, Tryz.ntmps25
  go_wp2_with fail
  refine (hchk _).mono ?_
  rintro e w1 ⟨rfl, hb1⟩
  have hX0 := heap_below (alloc3_0 w _ _ _) hb1
  have hX1 := heap_below (alloc3_1 w _ _ _) hb1
  have hX2 := heap_below (alloc3_2 w _ _ _) hb1
  have hw1 := ((((Below.refl w.heap.size w).alloc (Nat.le_refl _) _).alloc (by simp) _).alloc (by simp; omega) _).trans (hb1.mono (by simp; omega))
  clear hb1 hchk
  have y10 := cell_of hX0 10
  go_wp2_with (guard_target =~ wpList _ _ _ (_ :: _) _ _; first
    | refine wpList_load_row rfl (.tmp 3) 75 rfl (w.heap.size + 1) 75 _ _ rfl hX1 Tryz.underlying75 rfl (by kernel_rfl) ?_
    | refine wpList_load_row rfl (.tmp 2) 73 rfl w.heap.size 73 _ _ rfl hX0 Tryz.underlying73 rfl (by kernel_rfl) ?_)
  refine (hstr _).mono ?_
  rintro e w2 ⟨rfl, hb2⟩
  replace hX0 := heap_below hX0 hb2
  replace hX1 := heap_below hX1 hb2
  replace hX2 := heap_below hX2 hb2
  replace hw1 := hw1.trans (hb2.mono hw1.size)
  clear hb2 hstr y10
  go_wp2_with (guard_target =~ wpList _ _ _ (_ :: _) _ _; first
    | refine wpList_load_row rfl (.tmp 3) 75 rfl (w.heap.size + 1) 75 _ _ rfl hX1 Tryz.underlying75 rfl (by kernel_rfl) ?_
    | refine wpList_load_row rfl (.tmp 2) 73 rfl w.heap.size 73 _ _ rfl hX0 Tryz.underlying73 rfl (by kernel_rfl) ?_)
  refine (hgr _ hw1).mono ?_
  rintro e w3 ⟨rfl, hb3⟩
  replace hX2 := heap_below hX2 hb3
  replace hw1 := hw1.trans (hb3.mono hw1.size)
  clear hb3 hgr hX0 hX1
  go_upto_region 9 with fail
  go_wp2_with (guard_target =~ wpList _ _ _ (_ :: _) _ _; first
    | (refine wpList_store_row rfl (.tmp 4) (.tmp 28) 93 rfl (w.heap.size + 1 + 1) 0 93 _ _ #[.bool false, .int .u8 0, .int .u8 0, .bool false, .int .u8 0, .int .i64 0, .int .i64 0, .int .u8 0, .int .u8 0, .int .u8 0, .bool false, .bool false, .int .u8 0, .int .u8 0, .int .u8 0, .int .u16 0, .int .u16 0, .int .u16 0, .slice none 0 0, .int .i64 0, .bool false, .int .i64 0, .slice none 0 0, .int .i64 0, .int .i64 0, .bool false, .int .u8 0, .int .i64 0, .bool false, .slice none 0 0, .bool false, .int .i64 0, .slice none 0 0, .slice none 0 0, .int .i64 0, .int .i64 0, .bool false, .int .i64 0, .bool false, .int .u8 0, .int .i64 0, .slice none 0 0, .int .i64 0, .int .i64 0, .slice none 0 0, .slice none 0 0, .int .i64 0] rfl rfl hX2 (by kernel_rfl) (by simp) rfl rfl ?_; intro w4 hZ1 hW4))
  have hfin := hR _ (hw1.trans (hW4.below (by omega)))
  clear hX2 hR
  unfold noWorkV at hfin
  exact ret_cell _ _ _ _ _ rfl rfl rfl hZ1 Tryz.underlying93 rfl (by kernel_rfl) rfl hfin

set_option maxHeartbeats 4000000 in
set_option maxRecDepth 1000000 in
theorem next_zero (w : World) : Calls Tryz.prog 26 #[noWorkV] w fun e w2 => e = .returned (.tuple #[.agg #[.int .u8 0, .int .u8 0, .int .u8 0, .bool false, .bool false, .int .i64 0, .slice none 0 0], .bool false]) ∧ Below w.heap.size w w2 := by
  have hb : ∀ a b, Below w.heap.size w ((w.alloc a).alloc b) := fun a b => ((Below.refl w.heap.size w).alloc (Nat.le_refl _) a).alloc (by simp) b
  unfold noWorkV
  go_enter Tryz.func26, Tryz.ntmps26
  go_wp2_with fail
  exact ret_cell _ _ _ _ _ rfl rfl rfl (alloc2_1 w _ _) Tryz.underlying98 rfl (by kernel_rfl) rfl ⟨rfl, hb _ _⟩

/-- the value of a written cell -/
def litVal : V → Value
  | .bool (.lit b) => .bool b
  | .int k (.n z) => .int k z
  | _ => .slice none 0 0
def isLit : V → Bool
  | .bool (.lit _) => true
  | .int _ (.n _) => true
  | .nilSlice => true
  | _ => false
theorem lit_cell {c : Cx} {v : V} {x : Value} (h : isLit v = true) (hv : VR c v x) : x = litVal v := by
  unfold isLit at h
  split at h
  · rw [VR.bool] at hv; exact hv
  · rw [VR.int] at hv; exact hv.1
  · rw [VR.nilSlice] at hv; exact hv
  · cases h
theorem lit_cells {c : Cx} : ∀ {l : List V} {xs : List Value}, l.all isLit = true → VRs c l xs → xs = l.map litVal
  | [], xs, _, h => by rw [VRs.nil_iff] at h; exact h
  | v :: l, xs, hl, h => by
    obtain ⟨x, ys, rfl, h1, h2⟩ := VRs.cons_iff.1 h
    rw [List.all_cons, Bool.and_eq_true] at hl
    rw [lit_cell hl.1 h1, lit_cells hl.2 h2]
    rfl
theorem noWork_eq {W : Value} (h : NoWork W) : W = noWorkV := by
  obtain ⟨xs, rfl, h2⟩ := VR.agg.1 (show VR (cx0 (fun _ => 0) fun _ => 0) (.agg _) W from h _)
  have := lit_cells (by rfl) h2
  have e : xs = (xs.toList).toArray := by simp
  rw [e, this]
  rfl
end Go.Proofs.YthapmkbeolbmiaaGreatDoor
