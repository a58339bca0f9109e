/-
  What is proved here: the closed facts of the row of disksSurvive, one by one.
  Conditions: none.
-/
import Derived.Test.YtdiameckiihppaaDoorFacts
import Derived.Test.YtdiameckiihppaaDoorSyM5
import Derived.SevenTiedAt
namespace Go.Proofs.YtdiameckiihppaaDoor
open Go.Sy Go.ChangeShapes Go.WideShapes

set_option maxRecDepth 1000000

theorem ds_inPlace : (Rows.disksSurviveRow.inPlace == Tryd.prog.inPlace 3) = true := by kernel_rfl
theorem ds_unfollowed : (Rows.disksSurviveRow.unfollowed == Tryd.prog.unfollowed 3) = true := by kernel_rfl
theorem ds_recurses : (Rows.disksSurviveRow.recurses == Tryd.prog.recurses 3) = true := by kernel_rfl
theorem ds_named : (Rows.disksSurviveRow.named == Tryd.prog.varsNamed 3) = true := by kernel_rfl
theorem ds_lifted : (Rows.disksSurviveRow.lifted == Tryd.prog.liftsFinal) = true := by kernel_rfl
theorem ds_make : (Tryd.prog.make == some Rows.disksSurviveRow.make) = true := by kernel_rfl
theorem ds_wide : (Rows.disksSurviveRow.wideKeys == (Tryd.f3.params.toList ++ Rows.disksSurviveSpec.plain.varTypes Tryd.prog ++ Tryd.f3.resultTypes.toList).any (Tryd.prog.wideKeysFrom ·)) = true := by kernel_rfl
theorem ds_veiled : (Rows.disksSurviveRow.veiled == (Tryd.f3.params.toList ++ Rows.disksSurviveSpec.plain.varTypes Tryd.prog ++ Tryd.f3.resultTypes.toList).any (Tryd.prog.veiledRec ·)) = true := by kernel_rfl
theorem ds_fits : Rows.disksSurviveRow.veiledFits Tryd.prog Tryd.f3.params.toList (Tryd.f3.params.toList ++ Rows.disksSurviveSpec.plain.varTypes Tryd.prog ++ Tryd.f3.resultTypes.toList) = true := by kernel_rfl
theorem ds_joined : joinedFacts Tryd.prog 3 Tryd.f3 Rows.disksSurviveSpec Rows.disksSurviveRow = true :=
  joined_of (by kernel_rfl) p_laidOut p_rowed (by kernel_rfl) (by kernel_rfl) (by kernel_rfl) p_stops (by kernel_rfl) p_knobs ds_inPlace ds_unfollowed ds_recurses ds_named
    (by kernel_rfl) (by kernel_rfl) (by kernel_rfl) (by kernel_rfl) ds_wide (by kernel_rfl) (by kernel_rfl) (by kernel_rfl) (by kernel_rfl) p_keys (by kernel_rfl) p_heard p_enter ds_lifted ds_make (by kernel_rfl) (by kernel_rfl) ds_veiled ds_fits
theorem ds_func : Tryd.prog.funcNamed Rows.disksSurviveRow.func = some 3 := by kernel_rfl
theorem ds_inst : Tryd.f3.isInstance Tryd.prog Rows.disksSurviveRow.origin Rows.disksSurviveRow.targs := of_decide_eq_true (by kernel_rfl)
theorem ds_wrap : Tryd.f3.isWrapper Tryd.prog Rows.disksSurviveRow.wrapper Rows.disksSurviveRow.mainSum := by unfold Func.isWrapper; first | (rw [if_pos (by decide +kernel)]; kernel_rfl) | (rw [if_neg (by decide +kernel)]; exact ⟨rfl, rfl⟩)
theorem ds_params : parsOk Tryd.prog Tryd.f3 = true := by kernel_rfl
theorem ds_init : Tryd.prog.inits.idxOf? 3 = none := by kernel_rfl
theorem ds_standIn : (Tryd.f3.params.toList.all fun u => !Tryd.prog.wantsStandIn u) = true := by kernel_rfl
end Go.Proofs.YtdiameckiihppaaDoor
