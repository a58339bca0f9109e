/-
  What is proved here: what pipes.Next returns, by what the transfers' Next return.
  Conditions: what these return.
  What is proved here: what periodics.Start returns for packets that are received.
  Conditions: none.
  What is proved here: what append returns for a slice that is full, and where nothing is appended.
  Conditions: what the slices' cells hold.
-/
import Derived.Test.YtiajboiobjfcoaaGreatDoorQStore
import Derived.Test.YtiajboiobjfcoaaGreatDoorQStart
namespace Go.Proofs.YtiajboiobjfcoaaGreatDoor
open Go.Proofs Go.RowKit
attribute [local go_sem] lt2 lt3 lt4 lt5
end Go.Proofs.YtiajboiobjfcoaaGreatDoor

namespace Go.Proofs.YtiajboiobjfcoaaGreatDoor
open Go.Proofs Go.RowKit
attribute [local go_sem] lt2 lt3 lt4 lt5
def PIn (w : World) (en mx m : Int) (wr : World) : Prop :=
 Below w.heap.size w wr ∧ wr.heap[w.heap.size + 1]? = some (.cells #[.bool false, .int .u8 0, .int .i64 0, .slice none 0 0, .int .i64 0, .int .i64 0, .slice none 0 0] 52 (0, 0)) ∧
  wr.heap[w.heap.size + 1 + 1]? = some (.cells #[.bool true, .int .u8 en, .int .i64 mx, .slice none 0 0, .int .i64 m, .int .i64 m, .slice none 0 0] 52 (0, 0))
set_option maxHeartbeats 4000000 in
set_option maxRecDepth 1000000 in
theorem pstart_in (en mx m : Int) (A : Option Addr) (c : Nat) (w : World) (h1 : 1 ≤ en ∧ en ≤ 15) (h2 : 1 ≤ mx ∧ mx ≤ 1024) (hm : 1 ≤ m ∧ m ≤ 256) :
  Calls Tryz.prog 25 #[.agg #[.bool true, .int .u8 en, .int .i64 mx, .slice A 0 c, .int .i64 m]] w fun e w' => Below w.heap.size w w' ∧
   e = .returned (.tuple #[.agg #[.bool true, .int .u8 en, .int .i64 mx, .slice none 0 0, .int .i64 m, .int .i64 m, .slice none 0 0], .int .i64 0]) := by
 have d1 : decide (en < 1) = false := by simp; omega
 have d2 : decide (15 < en) = false := by simp; omega
 have d3 : decide (mx < 1) = false := by simp; omega
 have d4 : decide (1024 < mx) = false := by simp; omega
 have d5 : decide (m < 1) = false := by simp; omega
 have d6 : decide (256 < m) = false := by simp; omega
 have hb : ∀ a b c, Below w.heap.size w (((w.alloc a).alloc b).alloc c) := fun a b c => (((Below.refl w.heap.size w).alloc (Nat.le_refl _) a).alloc (by simp) b).alloc (by simp; omega) c
 have hmw : IntKind.i64.wrap (m + 0) = m := by rw [IntWalk.i64_in _ (by omega)]; omega
 go_enter Tryz.func25, Tryz.ntmps25
 go_wp2_with fail
 go_loopw [82] (fun i wr => i = .int .i64 0 ∧ PIn w en mx m wr) (fun _ _ => 0)
 case atStart => exact ⟨rfl, hb _ _ _, alloc3_1 _ _ _ _, alloc3_2 _ _ _ _⟩
 case round =>
  obtain ⟨rfl, hbel, hX1, hX2⟩ := hrel
  go_wp2_with (guard_target =~ wpList _ _ _ (_ :: _) _ _; first
   | refine wpList_load_row rfl (.tmp 4) 52 rfl (w.heap.size + 1 + 1) 52 _ _ rfl hX2 Tryz.underlying52 rfl (by kernel_rfl) ?_
   | (refine wpList_store_row rfl (.tmp 2) (.tmp 102) 52 rfl (w.heap.size + 1) 0 52 _ _ #[.bool true, .int .u8 en, .int .i64 mx, .slice none 0 0, .int .i64 m, .int .i64 m, .slice none 0 0] rfl rfl hX1 (by kernel_rfl) (by simp) rfl rfl ?_; intro w2 hY1 hW2))
  exact ret_cell _ _ _ _ _ rfl rfl rfl hY1 Tryz.underlying52 rfl (by kernel_rfl) rfl ⟨hbel.trans (hW2.below (by omega)), rfl⟩
end Go.Proofs.YtiajboiobjfcoaaGreatDoor

namespace Go.Proofs.YtiajboiobjfcoaaGreatDoor
open Go.Proofs Go.RowKit
end Go.Proofs.YtiajboiobjfcoaaGreatDoor
