/-
  What is proved here: the closed facts of the row of enumerationsFree, one by one.
  Conditions: none.
-/
import Derived.Test.YtfnbkmddkahajaaGreatFacts
import Derived.Test.YtfnbkmddkahajaaGreatSyM5
import Derived.SevenTiedAt
namespace Go.Proofs.YtfnbkmddkahajaaGreat
open Go.Sy Go.ChangeShapes Go.WideShapes

set_option maxRecDepth 1000000

theorem ef_inPlace : (Rows.enumerationsFreeRow.inPlace == Tryz.prog.inPlace 3) = true := by kernel_rfl
theorem ef_unfollowed : (Rows.enumerationsFreeRow.unfollowed == Tryz.prog.unfollowed 3) = true := by kernel_rfl
theorem ef_recurses : (Rows.enumerationsFreeRow.recurses == Tryz.prog.recurses 3) = true := by kernel_rfl
theorem ef_named : (Rows.enumerationsFreeRow.named == Tryz.prog.varsNamed 3) = true := by kernel_rfl
theorem ef_lifted : (Rows.enumerationsFreeRow.lifted == Tryz.prog.liftsFinal) = true := by kernel_rfl
theorem ef_make : (Tryz.prog.make == some Rows.enumerationsFreeRow.make) = true := by kernel_rfl
theorem ef_wide : (Rows.enumerationsFreeRow.wideKeys == (Tryz.f3.params.toList ++ Rows.enumerationsFreeSpec.plain.varTypes Tryz.prog ++ Tryz.f3.resultTypes.toList).any (Tryz.prog.wideKeysFrom ·)) = true := by kernel_rfl
theorem ef_veiled : (Rows.enumerationsFreeRow.veiled == (Tryz.f3.params.toList ++ Rows.enumerationsFreeSpec.plain.varTypes Tryz.prog ++ Tryz.f3.resultTypes.toList).any (Tryz.prog.veiledRec ·)) = true := by kernel_rfl
theorem ef_fits : Rows.enumerationsFreeRow.veiledFits Tryz.prog Tryz.f3.params.toList (Tryz.f3.params.toList ++ Rows.enumerationsFreeSpec.plain.varTypes Tryz.prog ++ Tryz.f3.resultTypes.toList) = true := by kernel_rfl
theorem ef_joined : joinedFacts Tryz.prog 3 Tryz.f3 Rows.enumerationsFreeSpec Rows.enumerationsFreeRow = true :=
  joined_of (by kernel_rfl) p_laidOut p_rowed (by kernel_rfl) (by kernel_rfl) (by kernel_rfl) p_stops (by kernel_rfl) p_knobs ef_inPlace ef_unfollowed ef_recurses ef_named
    (by kernel_rfl) (by kernel_rfl) (by kernel_rfl) (by kernel_rfl) ef_wide (by kernel_rfl) (by kernel_rfl) (by kernel_rfl) (by kernel_rfl) p_keys (by kernel_rfl) p_heard p_enter ef_lifted ef_make (by kernel_rfl) (by kernel_rfl) ef_veiled ef_fits
theorem ef_func : Tryz.prog.funcNamed Rows.enumerationsFreeRow.func = some 3 := by kernel_rfl
theorem ef_inst : Tryz.f3.isInstance Tryz.prog Rows.enumerationsFreeRow.origin Rows.enumerationsFreeRow.targs := of_decide_eq_true (by kernel_rfl)
theorem ef_wrap : Tryz.f3.isWrapper Tryz.prog Rows.enumerationsFreeRow.wrapper Rows.enumerationsFreeRow.mainSum := by unfold Func.isWrapper; first | (rw [if_pos (by decide +kernel)]; kernel_rfl) | (rw [if_neg (by decide +kernel)]; exact ⟨rfl, rfl⟩)
theorem ef_params : parsOk Tryz.prog Tryz.f3 = true := by kernel_rfl
theorem ef_init : Tryz.prog.inits.idxOf? 3 = none := by kernel_rfl
theorem ef_standIn : (Tryz.f3.params.toList.all fun u => !Tryz.prog.wantsStandIn u) = true := by kernel_rfl
end Go.Proofs.YtfnbkmddkahajaaGreat
