/-
  What is proved here: the closed facts of the row of splitsHost, one by one.
  Conditions: none.
-/
import Derived.Test.YtafkokkcnnfnlaaGreatFacts
import Derived.Test.YtafkokkcnnfnlaaGreatSyM5
import Derived.SevenTiedAt
namespace Go.Proofs.YtafkokkcnnfnlaaGreat
open Go.Sy Go.ChangeShapes Go.WideShapes

set_option maxRecDepth 1000000

theorem sh_inPlace : (Rows.splitsHostRow.inPlace == Tryz.prog.inPlace 3) = true := by kernel_rfl
theorem sh_unfollowed : (Rows.splitsHostRow.unfollowed == Tryz.prog.unfollowed 3) = true := by kernel_rfl
theorem sh_recurses : (Rows.splitsHostRow.recurses == Tryz.prog.recurses 3) = true := by kernel_rfl
theorem sh_named : (Rows.splitsHostRow.named == Tryz.prog.varsNamed 3) = true := by kernel_rfl
theorem sh_lifted : (Rows.splitsHostRow.lifted == Tryz.prog.liftsFinal) = true := by kernel_rfl
theorem sh_make : (Tryz.prog.make == some Rows.splitsHostRow.make) = true := by kernel_rfl
theorem sh_wide : (Rows.splitsHostRow.wideKeys == (Tryz.f3.params.toList ++ Rows.splitsHostSpec.plain.varTypes Tryz.prog ++ Tryz.f3.resultTypes.toList).any (Tryz.prog.wideKeysFrom ·)) = true := by kernel_rfl
theorem sh_veiled : (Rows.splitsHostRow.veiled == (Tryz.f3.params.toList ++ Rows.splitsHostSpec.plain.varTypes Tryz.prog ++ Tryz.f3.resultTypes.toList).any (Tryz.prog.veiledRec ·)) = true := by kernel_rfl
theorem sh_fits : Rows.splitsHostRow.veiledFits Tryz.prog Tryz.f3.params.toList (Tryz.f3.params.toList ++ Rows.splitsHostSpec.plain.varTypes Tryz.prog ++ Tryz.f3.resultTypes.toList) = true := by kernel_rfl
theorem sh_joined : joinedFacts Tryz.prog 3 Tryz.f3 Rows.splitsHostSpec Rows.splitsHostRow = true :=
  joined_of (by kernel_rfl) p_laidOut p_rowed (by kernel_rfl) (by kernel_rfl) (by kernel_rfl) p_stops (by kernel_rfl) p_knobs sh_inPlace sh_unfollowed sh_recurses sh_named
    (by kernel_rfl) (by kernel_rfl) (by kernel_rfl) (by kernel_rfl) sh_wide (by kernel_rfl) (by kernel_rfl) (by kernel_rfl) (by kernel_rfl) p_keys (by kernel_rfl) p_heard p_enter sh_lifted sh_make (by kernel_rfl) (by kernel_rfl) sh_veiled sh_fits
theorem sh_func : Tryz.prog.funcNamed Rows.splitsHostRow.func = some 3 := by kernel_rfl
theorem sh_inst : Tryz.f3.isInstance Tryz.prog Rows.splitsHostRow.origin Rows.splitsHostRow.targs := of_decide_eq_true (by kernel_rfl)
theorem sh_wrap : Tryz.f3.isWrapper Tryz.prog Rows.splitsHostRow.wrapper Rows.splitsHostRow.mainSum := by unfold Func.isWrapper; first | (rw [if_pos (by decide +kernel)]; kernel_rfl) | (rw [if_neg (by decide +kernel)]; exact ⟨rfl, rfl⟩)
theorem sh_params : parsOk Tryz.prog Tryz.f3 = true := by kernel_rfl
theorem sh_init : Tryz.prog.inits.idxOf? 3 = none := by kernel_rfl
theorem sh_standIn : (Tryz.f3.params.toList.all fun u => !Tryz.prog.wantsStandIn u) = true := by kernel_rfl
end Go.Proofs.YtafkokkcnnfnlaaGreat
