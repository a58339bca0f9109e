/-
  What is proved here: the closed facts of the row of topologiesPaths, one by one.
  Conditions: none.
-/
import Derived.Test.YthapmkbeolbmiaaDoorFacts
import Derived.Test.YthapmkbeolbmiaaDoorSyM5
import Derived.SevenTiedAt
namespace Go.Proofs.YthapmkbeolbmiaaDoor
open Go.Sy Go.ChangeShapes Go.WideShapes

set_option maxRecDepth 1000000

theorem tp_inPlace : (Rows.topologiesPathsRow.inPlace == Tryd.prog.inPlace 3) = true := by kernel_rfl
theorem tp_unfollowed : (Rows.topologiesPathsRow.unfollowed == Tryd.prog.unfollowed 3) = true := by kernel_rfl
theorem tp_recurses : (Rows.topologiesPathsRow.recurses == Tryd.prog.recurses 3) = true := by kernel_rfl
theorem tp_named : (Rows.topologiesPathsRow.named == Tryd.prog.varsNamed 3) = true := by kernel_rfl
theorem tp_lifted : (Rows.topologiesPathsRow.lifted == Tryd.prog.liftsFinal) = true := by kernel_rfl
theorem tp_make : (Tryd.prog.make == some Rows.topologiesPathsRow.make) = true := by kernel_rfl
theorem tp_wide : (Rows.topologiesPathsRow.wideKeys == (Tryd.f3.params.toList ++ Rows.topologiesPathsSpec.plain.varTypes Tryd.prog ++ Tryd.f3.resultTypes.toList).any (Tryd.prog.wideKeysFrom ·)) = true := by kernel_rfl
theorem tp_veiled : (Rows.topologiesPathsRow.veiled == (Tryd.f3.params.toList ++ Rows.topologiesPathsSpec.plain.varTypes Tryd.prog ++ Tryd.f3.resultTypes.toList).any (Tryd.prog.veiledRec ·)) = true := by kernel_rfl
theorem tp_fits : Rows.topologiesPathsRow.veiledFits Tryd.prog Tryd.f3.params.toList (Tryd.f3.params.toList ++ Rows.topologiesPathsSpec.plain.varTypes Tryd.prog ++ Tryd.f3.resultTypes.toList) = true := by kernel_rfl
theorem tp_joined : joinedFacts Tryd.prog 3 Tryd.f3 Rows.topologiesPathsSpec Rows.topologiesPathsRow = true :=
  joined_of (by kernel_rfl) p_laidOut p_rowed (by kernel_rfl) (by kernel_rfl) (by kernel_rfl) p_stops (by kernel_rfl) p_knobs tp_inPlace tp_unfollowed tp_recurses tp_named
    (by kernel_rfl) (by kernel_rfl) (by kernel_rfl) (by kernel_rfl) tp_wide (by kernel_rfl) (by kernel_rfl) (by kernel_rfl) (by kernel_rfl) p_keys (by kernel_rfl) p_heard p_enter tp_lifted tp_make (by kernel_rfl) (by kernel_rfl) tp_veiled tp_fits
theorem tp_func : Tryd.prog.funcNamed Rows.topologiesPathsRow.func = some 3 := by kernel_rfl
theorem tp_inst : Tryd.f3.isInstance Tryd.prog Rows.topologiesPathsRow.origin Rows.topologiesPathsRow.targs := of_decide_eq_true (by kernel_rfl)
theorem tp_wrap : Tryd.f3.isWrapper Tryd.prog Rows.topologiesPathsRow.wrapper Rows.topologiesPathsRow.mainSum := by unfold Func.isWrapper; first | (rw [if_pos (by decide +kernel)]; kernel_rfl) | (rw [if_neg (by decide +kernel)]; exact ⟨rfl, rfl⟩)
theorem tp_params : parsOk Tryd.prog Tryd.f3 = true := by kernel_rfl
theorem tp_init : Tryd.prog.inits.idxOf? 3 = none := by kernel_rfl
theorem tp_standIn : (Tryd.f3.params.toList.all fun u => !Tryd.prog.wantsStandIn u) = true := by kernel_rfl
end Go.Proofs.YthapmkbeolbmiaaDoor
