/-
  What is proved here: the closed facts of the row of pipesOf, one by one.
  Conditions: none.
-/
import Derived.Test.YtfliaagohfoipaaGreatDoorFacts
import Derived.Test.YtfliaagohfoipaaGreatDoorSyM5
import Derived.SevenTiedAt
namespace Go.Proofs.YtfliaagohfoipaaGreatDoor
open Go.Sy Go.ChangeShapes Go.WideShapes

set_option maxRecDepth 1000000

theorem po_inPlace : (Rows.pipesOfRow.inPlace == Tryz.prog.inPlace 5) = true := by kernel_rfl
theorem po_unfollowed : (Rows.pipesOfRow.unfollowed == Tryz.prog.unfollowed 5) = true := by kernel_rfl
theorem po_recurses : (Rows.pipesOfRow.recurses == Tryz.prog.recurses 5) = true := by kernel_rfl
theorem po_named : (Rows.pipesOfRow.named == Tryz.prog.varsNamed 5) = true := by kernel_rfl
theorem po_lifted : (Rows.pipesOfRow.lifted == Tryz.prog.liftsFinal) = true := by kernel_rfl
theorem po_make : (Tryz.prog.make == some Rows.pipesOfRow.make) = true := by kernel_rfl
theorem po_wide : (Rows.pipesOfRow.wideKeys == (Tryz.f5.params.toList ++ Rows.pipesOfSpec.plain.varTypes Tryz.prog ++ Tryz.f5.resultTypes.toList).any (Tryz.prog.wideKeysFrom ·)) = true := by kernel_rfl
theorem po_veiled : (Rows.pipesOfRow.veiled == (Tryz.f5.params.toList ++ Rows.pipesOfSpec.plain.varTypes Tryz.prog ++ Tryz.f5.resultTypes.toList).any (Tryz.prog.veiledRec ·)) = true := by kernel_rfl
theorem po_fits : Rows.pipesOfRow.veiledFits Tryz.prog Tryz.f5.params.toList (Tryz.f5.params.toList ++ Rows.pipesOfSpec.plain.varTypes Tryz.prog ++ Tryz.f5.resultTypes.toList) = true := by kernel_rfl
theorem po_joined : joinedFacts Tryz.prog 5 Tryz.f5 Rows.pipesOfSpec Rows.pipesOfRow = true :=
  joined_of (by kernel_rfl) p_laidOut p_rowed (by kernel_rfl) (by kernel_rfl) (by kernel_rfl) p_stops (by kernel_rfl) p_knobs po_inPlace po_unfollowed po_recurses po_named
    (by kernel_rfl) (by kernel_rfl) (by kernel_rfl) (by kernel_rfl) po_wide (by kernel_rfl) (by kernel_rfl) (by kernel_rfl) (by kernel_rfl) p_keys (by kernel_rfl) p_heard p_enter po_lifted po_make (by kernel_rfl) (by kernel_rfl) po_veiled po_fits
theorem po_func : Tryz.prog.funcNamed Rows.pipesOfRow.func = some 5 := by kernel_rfl
theorem po_inst : Tryz.f5.isInstance Tryz.prog Rows.pipesOfRow.origin Rows.pipesOfRow.targs := of_decide_eq_true (by kernel_rfl)
theorem po_wrap : Tryz.f5.isWrapper Tryz.prog Rows.pipesOfRow.wrapper Rows.pipesOfRow.mainSum := by unfold Func.isWrapper; first | (rw [if_pos (by decide +kernel)]; kernel_rfl) | (rw [if_neg (by decide +kernel)]; exact ⟨rfl, rfl⟩)
theorem po_params : parsOk Tryz.prog Tryz.f5 = true := by kernel_rfl
theorem po_init : Tryz.prog.inits.idxOf? 5 = none := by kernel_rfl
theorem po_standIn : (Tryz.f5.params.toList.all fun u => !Tryz.prog.wantsStandIn u) = true := by kernel_rfl
end Go.Proofs.YtfliaagohfoipaaGreatDoor
