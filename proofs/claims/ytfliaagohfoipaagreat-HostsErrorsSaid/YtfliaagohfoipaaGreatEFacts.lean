/-
  What is proved here: the closed facts of the row of hostsErrors, one by one.
  Conditions: none.
-/
import Derived.Test.YtfliaagohfoipaaGreatFacts
import Derived.Test.YtfliaagohfoipaaGreatSyM5
import Derived.SevenTiedAt
namespace Go.Proofs.YtfliaagohfoipaaGreat
open Go.Sy Go.ChangeShapes Go.WideShapes

set_option maxRecDepth 1000000

theorem he_inPlace : (Rows.hostsErrorsRow.inPlace == Tryz.prog.inPlace 5) = true := by kernel_rfl
theorem he_unfollowed : (Rows.hostsErrorsRow.unfollowed == Tryz.prog.unfollowed 5) = true := by kernel_rfl
theorem he_recurses : (Rows.hostsErrorsRow.recurses == Tryz.prog.recurses 5) = true := by kernel_rfl
theorem he_named : (Rows.hostsErrorsRow.named == Tryz.prog.varsNamed 5) = true := by kernel_rfl
theorem he_lifted : (Rows.hostsErrorsRow.lifted == Tryz.prog.liftsFinal) = true := by kernel_rfl
theorem he_make : (Tryz.prog.make == some Rows.hostsErrorsRow.make) = true := by kernel_rfl
theorem he_wide : (Rows.hostsErrorsRow.wideKeys == (Tryz.f5.params.toList ++ Rows.hostsErrorsSpec.plain.varTypes Tryz.prog ++ Tryz.f5.resultTypes.toList).any (Tryz.prog.wideKeysFrom ·)) = true := by kernel_rfl
theorem he_veiled : (Rows.hostsErrorsRow.veiled == (Tryz.f5.params.toList ++ Rows.hostsErrorsSpec.plain.varTypes Tryz.prog ++ Tryz.f5.resultTypes.toList).any (Tryz.prog.veiledRec ·)) = true := by kernel_rfl
theorem he_fits : Rows.hostsErrorsRow.veiledFits Tryz.prog Tryz.f5.params.toList (Tryz.f5.params.toList ++ Rows.hostsErrorsSpec.plain.varTypes Tryz.prog ++ Tryz.f5.resultTypes.toList) = true := by kernel_rfl
theorem he_joined : joinedFacts Tryz.prog 5 Tryz.f5 Rows.hostsErrorsSpec Rows.hostsErrorsRow = true :=
  joined_of (by kernel_rfl) p_laidOut p_rowed (by kernel_rfl) (by kernel_rfl) (by kernel_rfl) p_stops (by kernel_rfl) p_knobs he_inPlace he_unfollowed he_recurses he_named
    (by kernel_rfl) (by kernel_rfl) (by kernel_rfl) (by kernel_rfl) he_wide (by kernel_rfl) (by kernel_rfl) (by kernel_rfl) (by kernel_rfl) p_keys (by kernel_rfl) p_heard p_enter he_lifted he_make (by kernel_rfl) (by kernel_rfl) he_veiled he_fits
theorem he_func : Tryz.prog.funcNamed Rows.hostsErrorsRow.func = some 5 := by kernel_rfl
theorem he_inst : Tryz.f5.isInstance Tryz.prog Rows.hostsErrorsRow.origin Rows.hostsErrorsRow.targs := of_decide_eq_true (by kernel_rfl)
theorem he_wrap : Tryz.f5.isWrapper Tryz.prog Rows.hostsErrorsRow.wrapper Rows.hostsErrorsRow.mainSum := by unfold Func.isWrapper; first | (rw [if_pos (by decide +kernel)]; kernel_rfl) | (rw [if_neg (by decide +kernel)]; exact ⟨rfl, rfl⟩)
theorem he_params : parsOk Tryz.prog Tryz.f5 = true := by kernel_rfl
theorem he_init : Tryz.prog.inits.idxOf? 5 = none := by kernel_rfl
theorem he_standIn : (Tryz.f5.params.toList.all fun u => !Tryz.prog.wantsStandIn u) = true := by kernel_rfl
end Go.Proofs.YtfliaagohfoipaaGreat
