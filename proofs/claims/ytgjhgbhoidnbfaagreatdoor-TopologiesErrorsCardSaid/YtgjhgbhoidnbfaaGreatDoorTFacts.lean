/-
  What is proved here: the closed facts of the row of topologiesErrors, one by one.
  Conditions: none.
-/
import Derived.Test.YtgjhgbhoidnbfaaGreatDoorFacts
import Derived.Test.YtgjhgbhoidnbfaaGreatDoorSyM4
import Derived.SevenTiedAt
namespace Go.Proofs.YtgjhgbhoidnbfaaGreatDoor
open Go.Sy Go.ChangeShapes Go.WideShapes

set_option maxRecDepth 1000000

theorem te_inPlace : (Rows.topologiesErrorsRow.inPlace == Tryz.prog.inPlace 5) = true := by kernel_rfl
theorem te_unfollowed : (Rows.topologiesErrorsRow.unfollowed == Tryz.prog.unfollowed 5) = true := by kernel_rfl
theorem te_recurses : (Rows.topologiesErrorsRow.recurses == Tryz.prog.recurses 5) = true := by kernel_rfl
theorem te_named : (Rows.topologiesErrorsRow.named == Tryz.prog.varsNamed 5) = true := by kernel_rfl
theorem te_lifted : (Rows.topologiesErrorsRow.lifted == Tryz.prog.liftsFinal) = true := by kernel_rfl
theorem te_make : (Tryz.prog.make == some Rows.topologiesErrorsRow.make) = true := by kernel_rfl
theorem te_wide : (Rows.topologiesErrorsRow.wideKeys == (Tryz.f5.params.toList ++ Rows.topologiesErrorsSpec.plain.varTypes Tryz.prog ++ Tryz.f5.resultTypes.toList).any (Tryz.prog.wideKeysFrom ·)) = true := by kernel_rfl
theorem te_veiled : (Rows.topologiesErrorsRow.veiled == (Tryz.f5.params.toList ++ Rows.topologiesErrorsSpec.plain.varTypes Tryz.prog ++ Tryz.f5.resultTypes.toList).any (Tryz.prog.veiledRec ·)) = true := by kernel_rfl
theorem te_fits : Rows.topologiesErrorsRow.veiledFits Tryz.prog Tryz.f5.params.toList (Tryz.f5.params.toList ++ Rows.topologiesErrorsSpec.plain.varTypes Tryz.prog ++ Tryz.f5.resultTypes.toList) = true := by kernel_rfl
theorem te_joined : joinedFacts Tryz.prog 5 Tryz.f5 Rows.topologiesErrorsSpec Rows.topologiesErrorsRow = true :=
  joined_of (by kernel_rfl) p_laidOut p_rowed (by kernel_rfl) (by kernel_rfl) (by kernel_rfl) p_stops (by kernel_rfl) p_knobs te_inPlace te_unfollowed te_recurses te_named
    (by kernel_rfl) (by kernel_rfl) (by kernel_rfl) (by kernel_rfl) te_wide (by kernel_rfl) (by kernel_rfl) (by kernel_rfl) (by kernel_rfl) p_keys (by kernel_rfl) p_heard p_enter te_lifted te_make (by kernel_rfl) (by kernel_rfl) te_veiled te_fits
theorem te_func : Tryz.prog.funcNamed Rows.topologiesErrorsRow.func = some 5 := by kernel_rfl
theorem te_inst : Tryz.f5.isInstance Tryz.prog Rows.topologiesErrorsRow.origin Rows.topologiesErrorsRow.targs := of_decide_eq_true (by kernel_rfl)
theorem te_wrap : Tryz.f5.isWrapper Tryz.prog Rows.topologiesErrorsRow.wrapper Rows.topologiesErrorsRow.mainSum := by unfold Func.isWrapper; first | (rw [if_pos (by decide +kernel)]; kernel_rfl) | (rw [if_neg (by decide +kernel)]; exact ⟨rfl, rfl⟩)
theorem te_params : parsOk Tryz.prog Tryz.f5 = true := by kernel_rfl
theorem te_init : Tryz.prog.inits.idxOf? 5 = none := by kernel_rfl
theorem te_standIn : (Tryz.f5.params.toList.all fun u => !Tryz.prog.wantsStandIn u) = true := by kernel_rfl
end Go.Proofs.YtgjhgbhoidnbfaaGreatDoor
