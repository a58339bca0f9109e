/-
  What is proved here: the closed facts of the row of disksErrors, one by one.
  Conditions: none.
-/
import Derived.Test.YthapmkbeolbmiaaGreatDoorFacts
import Derived.Test.YthapmkbeolbmiaaGreatDoorSyM5
import Derived.SevenTiedAt
namespace Go.Proofs.YthapmkbeolbmiaaGreatDoor
open Go.Sy Go.ChangeShapes Go.WideShapes

set_option maxRecDepth 1000000

theorem de_inPlace : (Rows.disksErrorsRow.inPlace == Tryz.prog.inPlace 3) = true := by kernel_rfl
theorem de_unfollowed : (Rows.disksErrorsRow.unfollowed == Tryz.prog.unfollowed 3) = true := by kernel_rfl
theorem de_recurses : (Rows.disksErrorsRow.recurses == Tryz.prog.recurses 3) = true := by kernel_rfl
theorem de_named : (Rows.disksErrorsRow.named == Tryz.prog.varsNamed 3) = true := by kernel_rfl
theorem de_lifted : (Rows.disksErrorsRow.lifted == Tryz.prog.liftsFinal) = true := by kernel_rfl
theorem de_make : (Tryz.prog.make == some Rows.disksErrorsRow.make) = true := by kernel_rfl
theorem de_wide : (Rows.disksErrorsRow.wideKeys == (Tryz.f3.params.toList ++ Rows.disksErrorsSpec.plain.varTypes Tryz.prog ++ Tryz.f3.resultTypes.toList).any (Tryz.prog.wideKeysFrom ·)) = true := by kernel_rfl
theorem de_veiled : (Rows.disksErrorsRow.veiled == (Tryz.f3.params.toList ++ Rows.disksErrorsSpec.plain.varTypes Tryz.prog ++ Tryz.f3.resultTypes.toList).any (Tryz.prog.veiledRec ·)) = true := by kernel_rfl
theorem de_fits : Rows.disksErrorsRow.veiledFits Tryz.prog Tryz.f3.params.toList (Tryz.f3.params.toList ++ Rows.disksErrorsSpec.plain.varTypes Tryz.prog ++ Tryz.f3.resultTypes.toList) = true := by kernel_rfl
theorem de_joined : joinedFacts Tryz.prog 3 Tryz.f3 Rows.disksErrorsSpec Rows.disksErrorsRow = true :=
  joined_of (by kernel_rfl) p_laidOut p_rowed (by kernel_rfl) (by kernel_rfl) (by kernel_rfl) p_stops (by kernel_rfl) p_knobs de_inPlace de_unfollowed de_recurses de_named
    (by kernel_rfl) (by kernel_rfl) (by kernel_rfl) (by kernel_rfl) de_wide (by kernel_rfl) (by kernel_rfl) (by kernel_rfl) (by kernel_rfl) p_keys (by kernel_rfl) p_heard p_enter de_lifted de_make (by kernel_rfl) (by kernel_rfl) de_veiled de_fits
theorem de_func : Tryz.prog.funcNamed Rows.disksErrorsRow.func = some 3 := by kernel_rfl
theorem de_inst : Tryz.f3.isInstance Tryz.prog Rows.disksErrorsRow.origin Rows.disksErrorsRow.targs := of_decide_eq_true (by kernel_rfl)
theorem de_wrap : Tryz.f3.isWrapper Tryz.prog Rows.disksErrorsRow.wrapper Rows.disksErrorsRow.mainSum := by unfold Func.isWrapper; first | (rw [if_pos (by decide +kernel)]; kernel_rfl) | (rw [if_neg (by decide +kernel)]; exact ⟨rfl, rfl⟩)
theorem de_params : parsOk Tryz.prog Tryz.f3 = true := by kernel_rfl
theorem de_init : Tryz.prog.inits.idxOf? 3 = none := by kernel_rfl
theorem de_standIn : (Tryz.f3.params.toList.all fun u => !Tryz.prog.wantsStandIn u) = true := by kernel_rfl
end Go.Proofs.YthapmkbeolbmiaaGreatDoor
