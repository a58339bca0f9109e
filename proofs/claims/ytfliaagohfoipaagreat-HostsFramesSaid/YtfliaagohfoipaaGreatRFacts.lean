/-
  What is proved here: the closed facts of the row of hostsFrames, one by one.
  Conditions: none.
-/
import Derived.Test.YtfliaagohfoipaaGreatFacts
import Derived.Test.YtfliaagohfoipaaGreatSyM5
import Derived.SevenTiedAt
namespace Go.Proofs.YtfliaagohfoipaaGreat
open Go.Sy Go.ChangeShapes Go.WideShapes

set_option maxRecDepth 1000000

theorem hr_inPlace : (Rows.hostsFramesRow.inPlace == Tryz.prog.inPlace 4) = true := by kernel_rfl
theorem hr_unfollowed : (Rows.hostsFramesRow.unfollowed == Tryz.prog.unfollowed 4) = true := by kernel_rfl
theorem hr_recurses : (Rows.hostsFramesRow.recurses == Tryz.prog.recurses 4) = true := by kernel_rfl
theorem hr_named : (Rows.hostsFramesRow.named == Tryz.prog.varsNamed 4) = true := by kernel_rfl
theorem hr_lifted : (Rows.hostsFramesRow.lifted == Tryz.prog.liftsFinal) = true := by kernel_rfl
theorem hr_make : (Tryz.prog.make == some Rows.hostsFramesRow.make) = true := by kernel_rfl
theorem hr_wide : (Rows.hostsFramesRow.wideKeys == (Tryz.f4.params.toList ++ Rows.hostsFramesSpec.plain.varTypes Tryz.prog ++ Tryz.f4.resultTypes.toList).any (Tryz.prog.wideKeysFrom ·)) = true := by kernel_rfl
theorem hr_veiled : (Rows.hostsFramesRow.veiled == (Tryz.f4.params.toList ++ Rows.hostsFramesSpec.plain.varTypes Tryz.prog ++ Tryz.f4.resultTypes.toList).any (Tryz.prog.veiledRec ·)) = true := by kernel_rfl
theorem hr_fits : Rows.hostsFramesRow.veiledFits Tryz.prog Tryz.f4.params.toList (Tryz.f4.params.toList ++ Rows.hostsFramesSpec.plain.varTypes Tryz.prog ++ Tryz.f4.resultTypes.toList) = true := by kernel_rfl
theorem hr_joined : joinedFacts Tryz.prog 4 Tryz.f4 Rows.hostsFramesSpec Rows.hostsFramesRow = true :=
  joined_of (by kernel_rfl) p_laidOut p_rowed (by kernel_rfl) (by kernel_rfl) (by kernel_rfl) p_stops (by kernel_rfl) p_knobs hr_inPlace hr_unfollowed hr_recurses hr_named
    (by kernel_rfl) (by kernel_rfl) (by kernel_rfl) (by kernel_rfl) hr_wide (by kernel_rfl) (by kernel_rfl) (by kernel_rfl) (by kernel_rfl) p_keys (by kernel_rfl) p_heard p_enter hr_lifted hr_make (by kernel_rfl) (by kernel_rfl) hr_veiled hr_fits
theorem hr_func : Tryz.prog.funcNamed Rows.hostsFramesRow.func = some 4 := by kernel_rfl
theorem hr_inst : Tryz.f4.isInstance Tryz.prog Rows.hostsFramesRow.origin Rows.hostsFramesRow.targs := of_decide_eq_true (by kernel_rfl)
theorem hr_wrap : Tryz.f4.isWrapper Tryz.prog Rows.hostsFramesRow.wrapper Rows.hostsFramesRow.mainSum := by unfold Func.isWrapper; first | (rw [if_pos (by decide +kernel)]; kernel_rfl) | (rw [if_neg (by decide +kernel)]; exact ⟨rfl, rfl⟩)
theorem hr_params : parsOk Tryz.prog Tryz.f4 = true := by kernel_rfl
theorem hr_init : Tryz.prog.inits.idxOf? 4 = none := by kernel_rfl
theorem hr_standIn : (Tryz.f4.params.toList.all fun u => !Tryz.prog.wantsStandIn u) = true := by kernel_rfl
end Go.Proofs.YtfliaagohfoipaaGreat
