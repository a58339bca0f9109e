/-
  What is proved here: what bulks.Start and bulks.Next return at the beginning of a transfer.
  Conditions: what bulks.Cut returns.
-/
import Derived.Test.YthapmkbeolbmiaaGreatDoorQNext
import Derived.Test.YthapmkbeolbmiaaGreatDoorQStart
namespace Go.Proofs.YthapmkbeolbmiaaGreatDoor
open Go.Proofs Go.RowKit

attribute [local go_sem] lt2 lt3 lt4 lt5

set_option maxHeartbeats 4000000 in
set_option maxRecDepth 1000000 in
theorem bstart_in (en mx : Int) (tg : Bool) (A : Option Addr) (c : Nat) (len : Int) (w : World) (h1 : 1 ≤ en ∧ en ≤ 15) (h2 : 1 ≤ mx ∧ mx ≤ 1024) (hl : 0 ≤ len ∧ len ≤ 65536) :
    Calls Tryz.prog 64 #[.agg #[.bool true, .int .u8 en, .int .i64 mx, .bool tg, .slice A 0 c, .bool false, .int .i64 len]] w fun e w' => Below w.heap.size w w' ∧
      e = .returned (.tuple #[.agg #[.bool true, .int .u8 en, .int .i64 mx, .bool tg, .slice none 0 0, .bool false, .int .i64 len, .slice none 0 0, .slice none 0 0, .int .i64 0, .int .i64 0, .bool (len == 0), .int .i64 0], .int .i64 0]) := by
  have d1 : decide (en < 1) = false := by simp; omega
  have d2 : decide (15 < en) = false := by simp; omega
  have d3 : decide (mx < 1) = false := by simp; omega
  have d4 : decide (1024 < mx) = false := by simp; omega
  have d5 : decide (len < 0) = false := by simp; omega
  have d6 : decide (65536 < len) = false := by simp; omega
  have hb : ∀ a b c, Below w.heap.size w (((w.alloc a).alloc b).alloc c) := fun a b c => (((Below.refl w.heap.size w).alloc (Nat.le_refl _) a).alloc (by simp) b).alloc (by simp; omega) c
  go_enter Tryz.func64, Tryz.ntmps64
  go_wp2_with fail
  exact ret_cell _ _ _ _ _ rfl rfl rfl (alloc3_1 w _ _ _) Tryz.underlying86 rfl (by kernel_rfl) rfl ⟨hb _ _ _, rfl⟩

/-- what Cut is to return: at least one piece, each in a block of its own -/
def CutIs (w : World) (er0 : Int) (e : Ending) (w' : World) : Prop :=
  Below w.heap.size w w' ∧ ∃ g m cap us bs, e = .returned (.tuple #[.slice (some ⟨g, 0, none⟩) m m, .int .i64 er0]) ∧ 1 ≤ m ∧ w'.ownsRow w.heap.size 30 1 (.slice (some ⟨g, 0, none⟩) m cap) m us ∧ Els w' us bs ∧ ∀ b ∈ bs, b.length ≤ 65536

set_option maxHeartbeats 4000000 in
set_option maxRecDepth 1000000 in
theorem bstart_out (en mx : Int) (tg z : Bool) (A : Option Addr) (n c : Nat) (w : World) (h1 : 1 ≤ en ∧ en ≤ 15) (h2 : 1 ≤ mx ∧ mx ≤ 1024) (hn : n ≤ 100)
    (hcut : ∀ w', Below w.heap.size w w' → Calls Tryz.prog 118 #[.slice A n c, .int .i64 mx, .bool z] w' (CutIs w' 0)) :
    Calls Tryz.prog 64 #[.agg #[.bool false, .int .u8 en, .int .i64 mx, .bool tg, .slice A n c, .bool z, .int .i64 0]] w fun e w' => Below w.heap.size w w' ∧
      ∃ g m cap us bs, e = .returned (.tuple #[.agg #[.bool false, .int .u8 en, .int .i64 mx, .bool tg, .slice none 0 0, .bool z, .int .i64 0, .slice (some ⟨g, 0, none⟩) m m, .slice none 0 0, .int .i64 0, .int .i64 0, .bool false, .int .i64 0], .int .i64 0]) ∧
        1 ≤ m ∧ w'.ownsRow w.heap.size 30 1 (.slice (some ⟨g, 0, none⟩) m cap) m us ∧ Els w' us bs ∧ ∀ b ∈ bs, b.length ≤ 65536 := by
  have d1 : decide (en < 1) = false := by simp; omega
  have d2 : decide (15 < en) = false := by simp; omega
  have d3 : decide (mx < 1) = false := by simp; omega
  have d4 : decide (1024 < mx) = false := by simp; omega
  have d5 : decide ((65536 : Int) < (n : Int)) = false := by simp; omega
  have hb : ∀ a b c, Below w.heap.size w (((w.alloc a).alloc b).alloc c) := fun a b c => (((Below.refl w.heap.size w).alloc (Nat.le_refl _) a).alloc (by simp) b).alloc (by simp; omega) c
  go_enter Tryz.func64, Tryz.ntmps64
  go_wp2_with fail
  refine (hcut _ (hb _ _ _)).mono ?_
  rintro e w1 ⟨hb1, g, m, cap, us, bs, rfl, hm, hown, hel, hlen⟩
  have hX1 := heap_below (alloc3_1 w _ _ _) hb1
  have hX2 := heap_below (alloc3_2 w _ _ _) hb1
  have hw1 := (hb _ _ _).trans (hb1.mono (by simp; omega))
  clear hb1 hb hcut
  have z7 := cell_of hX2 7
  have f7 := frozen_of hX2 7
  have hS := setCell_heap hX2 7 (.slice (some ⟨g, 0, none⟩) m m)
  have hS1 := (Wrote.refl (w.heap.size + 1 + 1) w1).setCell 7 (.slice (some ⟨g, 0, none⟩) m m)
  have hU1 := (hS1.other (w.heap.size + 1) (by omega)).trans hX1
  go_wp2_with (guard_target =~ wpList _ _ _ (_ :: _) _ _; first
    | refine wpList_load_row rfl (.tmp 4) 86 rfl (w.heap.size + 1 + 1) 86 _ _ rfl hS Tryz.underlying86 rfl (by kernel_rfl) ?_
    | (refine wpList_store_row rfl (.tmp 2) (.tmp 86) 86 rfl (w.heap.size + 1) 0 86 _ _ #[.bool false, .int .u8 en, .int .i64 mx, .bool tg, .slice none 0 0, .bool z, .int .i64 0, .slice (some ⟨g, 0, none⟩) m m, .slice none 0 0, .int .i64 0, .int .i64 0, .bool false, .int .i64 0] rfl rfl hU1 (by kernel_rfl) (by simp) rfl rfl ?_; intro w4 hZ1 hW4))
  have hty : ∀ (g : Nat) cs, w1.heap[g]? = some (.cells cs 5 (0, 0)) → w4.heap[g]? = some (.cells cs 5 (0, 0)) := by
    intro g' cs hg
    have e1 : g' ≠ w.heap.size + 1 + 1 := by rintro rfl; rw [hX2] at hg; simp at hg
    have e2 : g' ≠ w.heap.size + 1 := by rintro rfl; rw [hX1] at hg; simp at hg
    exact (hW4.other _ e2).trans ((hS1.other _ e1).trans hg)
  refine ret_cell _ _ _ _ _ rfl rfl rfl hZ1 Tryz.underlying86 rfl (by kernel_rfl) rfl ⟨(hw1.trans (hS1.below (by omega))).trans (hW4.below (by omega)), g, m, cap, us, bs, rfl, hm, ?_, hel.heap hty, hlen⟩
  have hown2 := own_base hown (B' := w.heap.size + 1 + 1 + 1) (by simp)
  exact own_base (hW4.own (hS1.own hown2 (by omega)) (by omega)) (by omega)
end Go.Proofs.YthapmkbeolbmiaaGreatDoor
