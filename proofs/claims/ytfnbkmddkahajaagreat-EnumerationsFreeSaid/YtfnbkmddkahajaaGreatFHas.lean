/-
  What is proved here: slices.Contains at []uint8 says whether a number stands in a slice.
  Conditions: what the slice's cells hold.
-/
import Derived.Test.YtfnbkmddkahajaaGreatFIndex
namespace Go.Proofs.YtfnbkmddkahajaaGreat
open Go.Proofs

/-- slices.Contains at []uint8: "Contains reports whether v is present in s.": IT RETURNS 'elements.contains v'; the world is as it was. ITS CALLEE slices.Index IS MET BY ITS OWN CONTRACT OFF THE SHELF (lay that first): no loop is walked here. -/
theorem has_u8 (b off n c : Nat) (zs : List Int) (x : Int) (w : World) (hz : n ≤ zs.length) (hbig : n ≤ 9223372036854775807) (hc : ∀ j, j < zs.length → w.cell? ⟨b, off + j, none⟩ = some (.int .u8 (zs.getD j 0))) :
    Calls Tryz.prog 12 #[.slice (some ⟨b, off, none⟩) n c, .int .u8 x] w fun e w' => e = .returned (.bool ((zs.take n).contains x)) ∧ w' = w := by
  have hb : (zs.take n).contains x = decide (0 ≤ Lib.idxOf (zs.take n) x) := by
    rw [Bool.eq_iff_iff, decide_eq_true_eq, Lib.idxOf_nonneg_iff]
  rw [hb]
  go_enter Tryz.func12, Tryz.ntmps12
  go_wp2_with (go_at_call 19; refine (idx_u8 b off n c zs x _ hz hbig hc).mono ?_; rintro e w' ⟨rfl, rfl⟩)
  go_ret
  exact ⟨rfl, rfl⟩

/-- The same at a slice of length 0, a nil one too. -/
theorem has_u8_empty (a : Option Addr) (c : Nat) (x : Int) (w : World) :
    Calls Tryz.prog 12 #[.slice a 0 c, .int .u8 x] w fun e w' => e = .returned (.bool false) ∧ w' = w := by
  go_enter Tryz.func12, Tryz.ntmps12
  go_wp2_with (go_at_call 19; refine (idx_u8_empty a c x _).mono ?_; rintro e w' ⟨rfl, rfl⟩)
  go_ret
  exact ⟨rfl, rfl⟩

end Go.Proofs.YtfnbkmddkahajaaGreat
