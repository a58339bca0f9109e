/-
  What is proved here: the closed facts of the row of hubsWake, one by one.
  Conditions: none.
-/
import Derived.Test.YtgjhgbhoidnbfaaGreatDoorFacts
import Derived.Test.YtgjhgbhoidnbfaaGreatDoorSyM4
import Derived.SevenTiedAt
namespace Go.Proofs.YtgjhgbhoidnbfaaGreatDoor
open Go.Sy Go.ChangeShapes Go.WideShapes

set_option maxRecDepth 1000000

theorem hw_inPlace : (Rows.hubsWakeRow.inPlace == Tryz.prog.inPlace 4) = true := by kernel_rfl
theorem hw_unfollowed : (Rows.hubsWakeRow.unfollowed == Tryz.prog.unfollowed 4) = true := by kernel_rfl
theorem hw_recurses : (Rows.hubsWakeRow.recurses == Tryz.prog.recurses 4) = true := by kernel_rfl
theorem hw_named : (Rows.hubsWakeRow.named == Tryz.prog.varsNamed 4) = true := by kernel_rfl
theorem hw_lifted : (Rows.hubsWakeRow.lifted == Tryz.prog.liftsFinal) = true := by kernel_rfl
theorem hw_make : (Tryz.prog.make == some Rows.hubsWakeRow.make) = true := by kernel_rfl
theorem hw_wide : (Rows.hubsWakeRow.wideKeys == (Tryz.f4.params.toList ++ Rows.hubsWakeSpec.plain.varTypes Tryz.prog ++ Tryz.f4.resultTypes.toList).any (Tryz.prog.wideKeysFrom ·)) = true := by kernel_rfl
theorem hw_veiled : (Rows.hubsWakeRow.veiled == (Tryz.f4.params.toList ++ Rows.hubsWakeSpec.plain.varTypes Tryz.prog ++ Tryz.f4.resultTypes.toList).any (Tryz.prog.veiledRec ·)) = true := by kernel_rfl
theorem hw_fits : Rows.hubsWakeRow.veiledFits Tryz.prog Tryz.f4.params.toList (Tryz.f4.params.toList ++ Rows.hubsWakeSpec.plain.varTypes Tryz.prog ++ Tryz.f4.resultTypes.toList) = true := by kernel_rfl
theorem hw_joined : joinedFacts Tryz.prog 4 Tryz.f4 Rows.hubsWakeSpec Rows.hubsWakeRow = true :=
  joined_of (by kernel_rfl) p_laidOut p_rowed (by kernel_rfl) (by kernel_rfl) (by kernel_rfl) p_stops (by kernel_rfl) p_knobs hw_inPlace hw_unfollowed hw_recurses hw_named
    (by kernel_rfl) (by kernel_rfl) (by kernel_rfl) (by kernel_rfl) hw_wide (by kernel_rfl) (by kernel_rfl) (by kernel_rfl) (by kernel_rfl) p_keys (by kernel_rfl) p_heard p_enter hw_lifted hw_make (by kernel_rfl) (by kernel_rfl) hw_veiled hw_fits
theorem hw_func : Tryz.prog.funcNamed Rows.hubsWakeRow.func = some 4 := by kernel_rfl
theorem hw_inst : Tryz.f4.isInstance Tryz.prog Rows.hubsWakeRow.origin Rows.hubsWakeRow.targs := of_decide_eq_true (by kernel_rfl)
theorem hw_wrap : Tryz.f4.isWrapper Tryz.prog Rows.hubsWakeRow.wrapper Rows.hubsWakeRow.mainSum := by unfold Func.isWrapper; first | (rw [if_pos (by decide +kernel)]; kernel_rfl) | (rw [if_neg (by decide +kernel)]; exact ⟨rfl, rfl⟩)
theorem hw_params : parsOk Tryz.prog Tryz.f4 = true := by kernel_rfl
theorem hw_init : Tryz.prog.inits.idxOf? 4 = none := by kernel_rfl
theorem hw_standIn : (Tryz.f4.params.toList.all fun u => !Tryz.prog.wantsStandIn u) = true := by kernel_rfl
end Go.Proofs.YtgjhgbhoidnbfaaGreatDoor
