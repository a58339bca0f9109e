/-
  What is proved here: the closed facts of the row of hubsErrors, one by one.
  Conditions: none.
-/
import Derived.Test.YtgjhgbhoidnbfaaGreatDoorFacts
import Derived.Test.YtgjhgbhoidnbfaaGreatDoorSyM4
import Derived.SevenTiedAt
namespace Go.Proofs.YtgjhgbhoidnbfaaGreatDoor
open Go.Sy Go.ChangeShapes Go.WideShapes

set_option maxRecDepth 1000000

theorem he_inPlace : (Rows.hubsErrorsRow.inPlace == Tryz.prog.inPlace 3) = true := by kernel_rfl
theorem he_unfollowed : (Rows.hubsErrorsRow.unfollowed == Tryz.prog.unfollowed 3) = true := by kernel_rfl
theorem he_recurses : (Rows.hubsErrorsRow.recurses == Tryz.prog.recurses 3) = true := by kernel_rfl
theorem he_named : (Rows.hubsErrorsRow.named == Tryz.prog.varsNamed 3) = true := by kernel_rfl
theorem he_lifted : (Rows.hubsErrorsRow.lifted == Tryz.prog.liftsFinal) = true := by kernel_rfl
theorem he_make : (Tryz.prog.make == some Rows.hubsErrorsRow.make) = true := by kernel_rfl
theorem he_wide : (Rows.hubsErrorsRow.wideKeys == (Tryz.f3.params.toList ++ Rows.hubsErrorsSpec.plain.varTypes Tryz.prog ++ Tryz.f3.resultTypes.toList).any (Tryz.prog.wideKeysFrom ·)) = true := by kernel_rfl
theorem he_veiled : (Rows.hubsErrorsRow.veiled == (Tryz.f3.params.toList ++ Rows.hubsErrorsSpec.plain.varTypes Tryz.prog ++ Tryz.f3.resultTypes.toList).any (Tryz.prog.veiledRec ·)) = true := by kernel_rfl
theorem he_fits : Rows.hubsErrorsRow.veiledFits Tryz.prog Tryz.f3.params.toList (Tryz.f3.params.toList ++ Rows.hubsErrorsSpec.plain.varTypes Tryz.prog ++ Tryz.f3.resultTypes.toList) = true := by kernel_rfl
theorem he_joined : joinedFacts Tryz.prog 3 Tryz.f3 Rows.hubsErrorsSpec Rows.hubsErrorsRow = true :=
  joined_of (by kernel_rfl) p_laidOut p_rowed (by kernel_rfl) (by kernel_rfl) (by kernel_rfl) p_stops (by kernel_rfl) p_knobs he_inPlace he_unfollowed he_recurses he_named
    (by kernel_rfl) (by kernel_rfl) (by kernel_rfl) (by kernel_rfl) he_wide (by kernel_rfl) (by kernel_rfl) (by kernel_rfl) (by kernel_rfl) p_keys (by kernel_rfl) p_heard p_enter he_lifted he_make (by kernel_rfl) (by kernel_rfl) he_veiled he_fits
theorem he_func : Tryz.prog.funcNamed Rows.hubsErrorsRow.func = some 3 := by kernel_rfl
theorem he_inst : Tryz.f3.isInstance Tryz.prog Rows.hubsErrorsRow.origin Rows.hubsErrorsRow.targs := of_decide_eq_true (by kernel_rfl)
theorem he_wrap : Tryz.f3.isWrapper Tryz.prog Rows.hubsErrorsRow.wrapper Rows.hubsErrorsRow.mainSum := by unfold Func.isWrapper; first | (rw [if_pos (by decide +kernel)]; kernel_rfl) | (rw [if_neg (by decide +kernel)]; exact ⟨rfl, rfl⟩)
theorem he_params : parsOk Tryz.prog Tryz.f3 = true := by kernel_rfl
theorem he_init : Tryz.prog.inits.idxOf? 3 = none := by kernel_rfl
theorem he_standIn : (Tryz.f3.params.toList.all fun u => !Tryz.prog.wantsStandIn u) = true := by kernel_rfl
end Go.Proofs.YtgjhgbhoidnbfaaGreatDoor
