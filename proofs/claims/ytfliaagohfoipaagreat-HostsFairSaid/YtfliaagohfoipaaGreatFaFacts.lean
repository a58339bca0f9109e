/-
  What is proved here: the closed facts of the row of hostsFair, one by one.
  Conditions: none.
-/
import Derived.Test.YtfliaagohfoipaaGreatFacts
import Derived.Test.YtfliaagohfoipaaGreatSyM5
import Derived.SevenTiedAt
namespace Go.Proofs.YtfliaagohfoipaaGreat
open Go.Sy Go.ChangeShapes Go.WideShapes

set_option maxRecDepth 1000000

theorem hf_inPlace : (Rows.hostsFairRow.inPlace == Tryz.prog.inPlace 3) = true := by kernel_rfl
theorem hf_unfollowed : (Rows.hostsFairRow.unfollowed == Tryz.prog.unfollowed 3) = true := by kernel_rfl
theorem hf_recurses : (Rows.hostsFairRow.recurses == Tryz.prog.recurses 3) = true := by kernel_rfl
theorem hf_named : (Rows.hostsFairRow.named == Tryz.prog.varsNamed 3) = true := by kernel_rfl
theorem hf_lifted : (Rows.hostsFairRow.lifted == Tryz.prog.liftsFinal) = true := by kernel_rfl
theorem hf_make : (Tryz.prog.make == some Rows.hostsFairRow.make) = true := by kernel_rfl
theorem hf_wide : (Rows.hostsFairRow.wideKeys == (Tryz.f3.params.toList ++ Rows.hostsFairSpec.plain.varTypes Tryz.prog ++ Tryz.f3.resultTypes.toList).any (Tryz.prog.wideKeysFrom ·)) = true := by kernel_rfl
theorem hf_veiled : (Rows.hostsFairRow.veiled == (Tryz.f3.params.toList ++ Rows.hostsFairSpec.plain.varTypes Tryz.prog ++ Tryz.f3.resultTypes.toList).any (Tryz.prog.veiledRec ·)) = true := by kernel_rfl
theorem hf_fits : Rows.hostsFairRow.veiledFits Tryz.prog Tryz.f3.params.toList (Tryz.f3.params.toList ++ Rows.hostsFairSpec.plain.varTypes Tryz.prog ++ Tryz.f3.resultTypes.toList) = true := by kernel_rfl
theorem hf_joined : joinedFacts Tryz.prog 3 Tryz.f3 Rows.hostsFairSpec Rows.hostsFairRow = true :=
  joined_of (by kernel_rfl) p_laidOut p_rowed (by kernel_rfl) (by kernel_rfl) (by kernel_rfl) p_stops (by kernel_rfl) p_knobs hf_inPlace hf_unfollowed hf_recurses hf_named
    (by kernel_rfl) (by kernel_rfl) (by kernel_rfl) (by kernel_rfl) hf_wide (by kernel_rfl) (by kernel_rfl) (by kernel_rfl) (by kernel_rfl) p_keys (by kernel_rfl) p_heard p_enter hf_lifted hf_make (by kernel_rfl) (by kernel_rfl) hf_veiled hf_fits
theorem hf_func : Tryz.prog.funcNamed Rows.hostsFairRow.func = some 3 := by kernel_rfl
theorem hf_inst : Tryz.f3.isInstance Tryz.prog Rows.hostsFairRow.origin Rows.hostsFairRow.targs := of_decide_eq_true (by kernel_rfl)
theorem hf_wrap : Tryz.f3.isWrapper Tryz.prog Rows.hostsFairRow.wrapper Rows.hostsFairRow.mainSum := by unfold Func.isWrapper; first | (rw [if_pos (by decide +kernel)]; kernel_rfl) | (rw [if_neg (by decide +kernel)]; exact ⟨rfl, rfl⟩)
theorem hf_params : parsOk Tryz.prog Tryz.f3 = true := by kernel_rfl
theorem hf_init : Tryz.prog.inits.idxOf? 3 = none := by kernel_rfl
theorem hf_standIn : (Tryz.f3.params.toList.all fun u => !Tryz.prog.wantsStandIn u) = true := by kernel_rfl
end Go.Proofs.YtfliaagohfoipaaGreat
