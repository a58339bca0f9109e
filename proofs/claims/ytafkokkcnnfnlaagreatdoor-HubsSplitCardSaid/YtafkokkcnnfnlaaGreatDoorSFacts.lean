/-
  What is proved here: the closed facts of the row of hubsSplit, one by one.
  Conditions: none.
-/
import Derived.Test.YtafkokkcnnfnlaaGreatDoorFacts
import Derived.Test.YtafkokkcnnfnlaaGreatDoorSyM5
import Derived.SevenTiedAt
namespace Go.Proofs.YtafkokkcnnfnlaaGreatDoor
open Go.Sy Go.ChangeShapes Go.WideShapes

set_option maxRecDepth 1000000

theorem hs_inPlace : (Rows.hubsSplitRow.inPlace == Tryz.prog.inPlace 4) = true := by kernel_rfl
theorem hs_unfollowed : (Rows.hubsSplitRow.unfollowed == Tryz.prog.unfollowed 4) = true := by kernel_rfl
theorem hs_recurses : (Rows.hubsSplitRow.recurses == Tryz.prog.recurses 4) = true := by kernel_rfl
theorem hs_named : (Rows.hubsSplitRow.named == Tryz.prog.varsNamed 4) = true := by kernel_rfl
theorem hs_lifted : (Rows.hubsSplitRow.lifted == Tryz.prog.liftsFinal) = true := by kernel_rfl
theorem hs_make : (Tryz.prog.make == some Rows.hubsSplitRow.make) = true := by kernel_rfl
theorem hs_wide : (Rows.hubsSplitRow.wideKeys == (Tryz.f4.params.toList ++ Rows.hubsSplitSpec.plain.varTypes Tryz.prog ++ Tryz.f4.resultTypes.toList).any (Tryz.prog.wideKeysFrom ·)) = true := by kernel_rfl
theorem hs_veiled : (Rows.hubsSplitRow.veiled == (Tryz.f4.params.toList ++ Rows.hubsSplitSpec.plain.varTypes Tryz.prog ++ Tryz.f4.resultTypes.toList).any (Tryz.prog.veiledRec ·)) = true := by kernel_rfl
theorem hs_fits : Rows.hubsSplitRow.veiledFits Tryz.prog Tryz.f4.params.toList (Tryz.f4.params.toList ++ Rows.hubsSplitSpec.plain.varTypes Tryz.prog ++ Tryz.f4.resultTypes.toList) = true := by kernel_rfl
theorem hs_joined : joinedFacts Tryz.prog 4 Tryz.f4 Rows.hubsSplitSpec Rows.hubsSplitRow = true :=
  joined_of (by kernel_rfl) p_laidOut p_rowed (by kernel_rfl) (by kernel_rfl) (by kernel_rfl) p_stops (by kernel_rfl) p_knobs hs_inPlace hs_unfollowed hs_recurses hs_named
    (by kernel_rfl) (by kernel_rfl) (by kernel_rfl) (by kernel_rfl) hs_wide (by kernel_rfl) (by kernel_rfl) (by kernel_rfl) (by kernel_rfl) p_keys (by kernel_rfl) p_heard p_enter hs_lifted hs_make (by kernel_rfl) (by kernel_rfl) hs_veiled hs_fits
theorem hs_func : Tryz.prog.funcNamed Rows.hubsSplitRow.func = some 4 := by kernel_rfl
theorem hs_inst : Tryz.f4.isInstance Tryz.prog Rows.hubsSplitRow.origin Rows.hubsSplitRow.targs := of_decide_eq_true (by kernel_rfl)
theorem hs_wrap : Tryz.f4.isWrapper Tryz.prog Rows.hubsSplitRow.wrapper Rows.hubsSplitRow.mainSum := by unfold Func.isWrapper; first | (rw [if_pos (by decide +kernel)]; kernel_rfl) | (rw [if_neg (by decide +kernel)]; exact ⟨rfl, rfl⟩)
theorem hs_params : parsOk Tryz.prog Tryz.f4 = true := by kernel_rfl
theorem hs_init : Tryz.prog.inits.idxOf? 4 = none := by kernel_rfl
theorem hs_standIn : (Tryz.f4.params.toList.all fun u => !Tryz.prog.wantsStandIn u) = true := by kernel_rfl
end Go.Proofs.YtafkokkcnnfnlaaGreatDoor
