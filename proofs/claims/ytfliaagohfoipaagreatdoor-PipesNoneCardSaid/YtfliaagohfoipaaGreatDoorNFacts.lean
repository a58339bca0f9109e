/-
  What is proved here: the closed facts of the row of pipesNone, one by one.
  Conditions: none.
-/
import Derived.Test.YtfliaagohfoipaaGreatDoorFacts
import Derived.Test.YtfliaagohfoipaaGreatDoorSyM5
import Derived.SevenTiedAt
namespace Go.Proofs.YtfliaagohfoipaaGreatDoor
open Go.Sy Go.ChangeShapes Go.WideShapes

set_option maxRecDepth 1000000

theorem pn_inPlace : (Rows.pipesNoneRow.inPlace == Tryz.prog.inPlace 3) = true := by kernel_rfl
theorem pn_unfollowed : (Rows.pipesNoneRow.unfollowed == Tryz.prog.unfollowed 3) = true := by kernel_rfl
theorem pn_recurses : (Rows.pipesNoneRow.recurses == Tryz.prog.recurses 3) = true := by kernel_rfl
theorem pn_named : (Rows.pipesNoneRow.named == Tryz.prog.varsNamed 3) = true := by kernel_rfl
theorem pn_lifted : (Rows.pipesNoneRow.lifted == Tryz.prog.liftsFinal) = true := by kernel_rfl
theorem pn_make : (Tryz.prog.make == some Rows.pipesNoneRow.make) = true := by kernel_rfl
theorem pn_wide : (Rows.pipesNoneRow.wideKeys == (Tryz.f3.params.toList ++ Rows.pipesNoneSpec.plain.varTypes Tryz.prog ++ Tryz.f3.resultTypes.toList).any (Tryz.prog.wideKeysFrom ·)) = true := by kernel_rfl
theorem pn_veiled : (Rows.pipesNoneRow.veiled == (Tryz.f3.params.toList ++ Rows.pipesNoneSpec.plain.varTypes Tryz.prog ++ Tryz.f3.resultTypes.toList).any (Tryz.prog.veiledRec ·)) = true := by kernel_rfl
theorem pn_fits : Rows.pipesNoneRow.veiledFits Tryz.prog Tryz.f3.params.toList (Tryz.f3.params.toList ++ Rows.pipesNoneSpec.plain.varTypes Tryz.prog ++ Tryz.f3.resultTypes.toList) = true := by kernel_rfl
theorem pn_joined : joinedFacts Tryz.prog 3 Tryz.f3 Rows.pipesNoneSpec Rows.pipesNoneRow = true :=
  joined_of (by kernel_rfl) p_laidOut p_rowed (by kernel_rfl) (by kernel_rfl) (by kernel_rfl) p_stops (by kernel_rfl) p_knobs pn_inPlace pn_unfollowed pn_recurses pn_named
    (by kernel_rfl) (by kernel_rfl) (by kernel_rfl) (by kernel_rfl) pn_wide (by kernel_rfl) (by kernel_rfl) (by kernel_rfl) (by kernel_rfl) p_keys (by kernel_rfl) p_heard p_enter pn_lifted pn_make (by kernel_rfl) (by kernel_rfl) pn_veiled pn_fits
theorem pn_func : Tryz.prog.funcNamed Rows.pipesNoneRow.func = some 3 := by kernel_rfl
theorem pn_inst : Tryz.f3.isInstance Tryz.prog Rows.pipesNoneRow.origin Rows.pipesNoneRow.targs := of_decide_eq_true (by kernel_rfl)
theorem pn_wrap : Tryz.f3.isWrapper Tryz.prog Rows.pipesNoneRow.wrapper Rows.pipesNoneRow.mainSum := by unfold Func.isWrapper; first | (rw [if_pos (by decide +kernel)]; kernel_rfl) | (rw [if_neg (by decide +kernel)]; exact ⟨rfl, rfl⟩)
theorem pn_params : parsOk Tryz.prog Tryz.f3 = true := by kernel_rfl
theorem pn_init : Tryz.prog.inits.idxOf? 3 = none := by kernel_rfl
theorem pn_standIn : (Tryz.f3.params.toList.all fun u => !Tryz.prog.wantsStandIn u) = true := by kernel_rfl
end Go.Proofs.YtfliaagohfoipaaGreatDoor
