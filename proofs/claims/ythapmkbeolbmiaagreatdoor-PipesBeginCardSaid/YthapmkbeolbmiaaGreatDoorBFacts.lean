/-
  What is proved here: the closed facts of the row of pipesBegin, one by one.
  Conditions: none.
-/
import Derived.Test.YthapmkbeolbmiaaGreatDoorFacts
import Derived.Test.YthapmkbeolbmiaaGreatDoorSyM5
import Derived.SevenTiedAt
namespace Go.Proofs.YthapmkbeolbmiaaGreatDoor
open Go.Sy Go.ChangeShapes Go.WideShapes

set_option maxRecDepth 1000000

theorem pb_inPlace : (Rows.pipesBeginRow.inPlace == Tryz.prog.inPlace 4) = true := by kernel_rfl
theorem pb_unfollowed : (Rows.pipesBeginRow.unfollowed == Tryz.prog.unfollowed 4) = true := by kernel_rfl
theorem pb_recurses : (Rows.pipesBeginRow.recurses == Tryz.prog.recurses 4) = true := by kernel_rfl
theorem pb_named : (Rows.pipesBeginRow.named == Tryz.prog.varsNamed 4) = true := by kernel_rfl
theorem pb_lifted : (Rows.pipesBeginRow.lifted == Tryz.prog.liftsFinal) = true := by kernel_rfl
theorem pb_make : (Tryz.prog.make == some Rows.pipesBeginRow.make) = true := by kernel_rfl
theorem pb_wide : (Rows.pipesBeginRow.wideKeys == (Tryz.f4.params.toList ++ Rows.pipesBeginSpec.plain.varTypes Tryz.prog ++ Tryz.f4.resultTypes.toList).any (Tryz.prog.wideKeysFrom ·)) = true := by kernel_rfl
theorem pb_veiled : (Rows.pipesBeginRow.veiled == (Tryz.f4.params.toList ++ Rows.pipesBeginSpec.plain.varTypes Tryz.prog ++ Tryz.f4.resultTypes.toList).any (Tryz.prog.veiledRec ·)) = true := by kernel_rfl
theorem pb_fits : Rows.pipesBeginRow.veiledFits Tryz.prog Tryz.f4.params.toList (Tryz.f4.params.toList ++ Rows.pipesBeginSpec.plain.varTypes Tryz.prog ++ Tryz.f4.resultTypes.toList) = true := by kernel_rfl
theorem pb_joined : joinedFacts Tryz.prog 4 Tryz.f4 Rows.pipesBeginSpec Rows.pipesBeginRow = true :=
  joined_of (by kernel_rfl) p_laidOut p_rowed (by kernel_rfl) (by kernel_rfl) (by kernel_rfl) p_stops (by kernel_rfl) p_knobs pb_inPlace pb_unfollowed pb_recurses pb_named
    (by kernel_rfl) (by kernel_rfl) (by kernel_rfl) (by kernel_rfl) pb_wide (by kernel_rfl) (by kernel_rfl) (by kernel_rfl) (by kernel_rfl) p_keys (by kernel_rfl) p_heard p_enter pb_lifted pb_make (by kernel_rfl) (by kernel_rfl) pb_veiled pb_fits
theorem pb_func : Tryz.prog.funcNamed Rows.pipesBeginRow.func = some 4 := by kernel_rfl
theorem pb_inst : Tryz.f4.isInstance Tryz.prog Rows.pipesBeginRow.origin Rows.pipesBeginRow.targs := of_decide_eq_true (by kernel_rfl)
theorem pb_wrap : Tryz.f4.isWrapper Tryz.prog Rows.pipesBeginRow.wrapper Rows.pipesBeginRow.mainSum := by unfold Func.isWrapper; first | (rw [if_pos (by decide +kernel)]; kernel_rfl) | (rw [if_neg (by decide +kernel)]; exact ⟨rfl, rfl⟩)
theorem pb_params : parsOk Tryz.prog Tryz.f4 = true := by kernel_rfl
theorem pb_init : Tryz.prog.inits.idxOf? 4 = none := by kernel_rfl
theorem pb_standIn : (Tryz.f4.params.toList.all fun u => !Tryz.prog.wantsStandIn u) = true := by kernel_rfl
end Go.Proofs.YthapmkbeolbmiaaGreatDoor
