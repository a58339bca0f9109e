/-
  What is proved here: the closed facts of the row of pipesIn, one by one.
  Conditions: none.
-/
import Derived.Test.YtiajboiobjfcoaaGreatDoorFacts
import Derived.Test.YtiajboiobjfcoaaGreatDoorSyM5
import Derived.SevenTiedAt
namespace Go.Proofs.YtiajboiobjfcoaaGreatDoor
open Go.Sy Go.ChangeShapes Go.WideShapes
set_option maxRecDepth 1000000
theorem pn_inPlace : (Rows.pipesInRow.inPlace == Tryz.prog.inPlace 4) = true := by kernel_rfl
theorem pn_unfollowed : (Rows.pipesInRow.unfollowed == Tryz.prog.unfollowed 4) = true := by kernel_rfl
theorem pn_recurses : (Rows.pipesInRow.recurses == Tryz.prog.recurses 4) = true := by kernel_rfl
theorem pn_named : (Rows.pipesInRow.named == Tryz.prog.varsNamed 4) = true := by kernel_rfl
theorem pn_lifted : (Rows.pipesInRow.lifted == Tryz.prog.liftsFinal) = true := by kernel_rfl
theorem pn_make : (Tryz.prog.make == some Rows.pipesInRow.make) = true := by kernel_rfl
theorem pn_wide : (Rows.pipesInRow.wideKeys == (Tryz.f4.params.toList ++ Rows.pipesInSpec.plain.varTypes Tryz.prog ++ Tryz.f4.resultTypes.toList).any (Tryz.prog.wideKeysFrom ·)) = true := by kernel_rfl
theorem pn_veiled : (Rows.pipesInRow.veiled == (Tryz.f4.params.toList ++ Rows.pipesInSpec.plain.varTypes Tryz.prog ++ Tryz.f4.resultTypes.toList).any (Tryz.prog.veiledRec ·)) = true := by kernel_rfl
theorem pn_fits : Rows.pipesInRow.veiledFits Tryz.prog Tryz.f4.params.toList (Tryz.f4.params.toList ++ Rows.pipesInSpec.plain.varTypes Tryz.prog ++ Tryz.f4.resultTypes.toList) = true := by kernel_rfl
theorem pn_joined : joinedFacts Tryz.prog 4 Tryz.f4 Rows.pipesInSpec Rows.pipesInRow = true :=
 joined_of (by kernel_rfl) p_laidOut p_rowed (by kernel_rfl) (by kernel_rfl) (by kernel_rfl) p_stops (by kernel_rfl) p_knobs pn_inPlace pn_unfollowed pn_recurses pn_named
  (by kernel_rfl) (by kernel_rfl) (by kernel_rfl) (by kernel_rfl) pn_wide (by kernel_rfl) (by kernel_rfl) (by kernel_rfl) (by kernel_rfl) p_keys (by kernel_rfl) p_heard p_enter pn_lifted pn_make (by kernel_rfl) (by kernel_rfl) pn_veiled pn_fits
theorem pn_func : Tryz.prog.funcNamed Rows.pipesInRow.func = some 4 := by kernel_rfl
theorem pn_inst : Tryz.f4.isInstance Tryz.prog Rows.pipesInRow.origin Rows.pipesInRow.targs := of_decide_eq_true (by kernel_rfl)
theorem pn_wrap : Tryz.f4.isWrapper Tryz.prog Rows.pipesInRow.wrapper Rows.pipesInRow.mainSum := by unfold Func.isWrapper; first | (rw [if_pos (by decide +kernel)]; kernel_rfl) | (rw [if_neg (by decide +kernel)]; exact ⟨rfl, rfl⟩)
theorem pn_params : parsOk Tryz.prog Tryz.f4 = true := by kernel_rfl
theorem pn_init : Tryz.prog.inits.idxOf? 4 = none := by kernel_rfl
theorem pn_standIn : (Tryz.f4.params.toList.all fun u => !Tryz.prog.wantsStandIn u) = true := by kernel_rfl
end Go.Proofs.YtiajboiobjfcoaaGreatDoor
