/-
  What is proved here: the closed facts of the row of splitsErrors, one by one.
  Conditions: none.
-/
import Derived.Test.YtafkokkcnnfnlaaGreatDoorFacts
import Derived.Test.YtafkokkcnnfnlaaGreatDoorSyM5
import Derived.SevenTiedAt
namespace Go.Proofs.YtafkokkcnnfnlaaGreatDoor
open Go.Sy Go.ChangeShapes Go.WideShapes

set_option maxRecDepth 1000000

theorem se_inPlace : (Rows.splitsErrorsRow.inPlace == Tryz.prog.inPlace 5) = true := by kernel_rfl
theorem se_unfollowed : (Rows.splitsErrorsRow.unfollowed == Tryz.prog.unfollowed 5) = true := by kernel_rfl
theorem se_recurses : (Rows.splitsErrorsRow.recurses == Tryz.prog.recurses 5) = true := by kernel_rfl
theorem se_named : (Rows.splitsErrorsRow.named == Tryz.prog.varsNamed 5) = true := by kernel_rfl
theorem se_lifted : (Rows.splitsErrorsRow.lifted == Tryz.prog.liftsFinal) = true := by kernel_rfl
theorem se_make : (Tryz.prog.make == some Rows.splitsErrorsRow.make) = true := by kernel_rfl
theorem se_wide : (Rows.splitsErrorsRow.wideKeys == (Tryz.f5.params.toList ++ Rows.splitsErrorsSpec.plain.varTypes Tryz.prog ++ Tryz.f5.resultTypes.toList).any (Tryz.prog.wideKeysFrom ·)) = true := by kernel_rfl
theorem se_veiled : (Rows.splitsErrorsRow.veiled == (Tryz.f5.params.toList ++ Rows.splitsErrorsSpec.plain.varTypes Tryz.prog ++ Tryz.f5.resultTypes.toList).any (Tryz.prog.veiledRec ·)) = true := by kernel_rfl
theorem se_fits : Rows.splitsErrorsRow.veiledFits Tryz.prog Tryz.f5.params.toList (Tryz.f5.params.toList ++ Rows.splitsErrorsSpec.plain.varTypes Tryz.prog ++ Tryz.f5.resultTypes.toList) = true := by kernel_rfl
theorem se_joined : joinedFacts Tryz.prog 5 Tryz.f5 Rows.splitsErrorsSpec Rows.splitsErrorsRow = true :=
  joined_of (by kernel_rfl) p_laidOut p_rowed (by kernel_rfl) (by kernel_rfl) (by kernel_rfl) p_stops (by kernel_rfl) p_knobs se_inPlace se_unfollowed se_recurses se_named
    (by kernel_rfl) (by kernel_rfl) (by kernel_rfl) (by kernel_rfl) se_wide (by kernel_rfl) (by kernel_rfl) (by kernel_rfl) (by kernel_rfl) p_keys (by kernel_rfl) p_heard p_enter se_lifted se_make (by kernel_rfl) (by kernel_rfl) se_veiled se_fits
theorem se_func : Tryz.prog.funcNamed Rows.splitsErrorsRow.func = some 5 := by kernel_rfl
theorem se_inst : Tryz.f5.isInstance Tryz.prog Rows.splitsErrorsRow.origin Rows.splitsErrorsRow.targs := of_decide_eq_true (by kernel_rfl)
theorem se_wrap : Tryz.f5.isWrapper Tryz.prog Rows.splitsErrorsRow.wrapper Rows.splitsErrorsRow.mainSum := by unfold Func.isWrapper; first | (rw [if_pos (by decide +kernel)]; kernel_rfl) | (rw [if_neg (by decide +kernel)]; exact ⟨rfl, rfl⟩)
theorem se_params : parsOk Tryz.prog Tryz.f5 = true := by kernel_rfl
theorem se_init : Tryz.prog.inits.idxOf? 5 = none := by kernel_rfl
theorem se_standIn : (Tryz.f5.params.toList.all fun u => !Tryz.prog.wantsStandIn u) = true := by kernel_rfl
end Go.Proofs.YtafkokkcnnfnlaaGreatDoor
