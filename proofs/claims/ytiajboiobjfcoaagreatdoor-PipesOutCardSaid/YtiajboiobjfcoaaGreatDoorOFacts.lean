/-
  What is proved here: the closed facts of the row of pipesOut, one by one.
  Conditions: none.
-/
import Derived.Test.YtiajboiobjfcoaaGreatDoorFacts
import Derived.Test.YtiajboiobjfcoaaGreatDoorSyM5
import Derived.SevenTiedAt
namespace Go.Proofs.YtiajboiobjfcoaaGreatDoor
open Go.Sy Go.ChangeShapes Go.WideShapes
set_option maxRecDepth 1000000
theorem po_inPlace : (Rows.pipesOutRow.inPlace == Tryz.prog.inPlace 3) = true := by kernel_rfl
theorem po_unfollowed : (Rows.pipesOutRow.unfollowed == Tryz.prog.unfollowed 3) = true := by kernel_rfl
theorem po_recurses : (Rows.pipesOutRow.recurses == Tryz.prog.recurses 3) = true := by kernel_rfl
theorem po_named : (Rows.pipesOutRow.named == Tryz.prog.varsNamed 3) = true := by kernel_rfl
theorem po_lifted : (Rows.pipesOutRow.lifted == Tryz.prog.liftsFinal) = true := by kernel_rfl
theorem po_make : (Tryz.prog.make == some Rows.pipesOutRow.make) = true := by kernel_rfl
theorem po_wide : (Rows.pipesOutRow.wideKeys == (Tryz.f3.params.toList ++ Rows.pipesOutSpec.plain.varTypes Tryz.prog ++ Tryz.f3.resultTypes.toList).any (Tryz.prog.wideKeysFrom ·)) = true := by kernel_rfl
theorem po_veiled : (Rows.pipesOutRow.veiled == (Tryz.f3.params.toList ++ Rows.pipesOutSpec.plain.varTypes Tryz.prog ++ Tryz.f3.resultTypes.toList).any (Tryz.prog.veiledRec ·)) = true := by kernel_rfl
theorem po_fits : Rows.pipesOutRow.veiledFits Tryz.prog Tryz.f3.params.toList (Tryz.f3.params.toList ++ Rows.pipesOutSpec.plain.varTypes Tryz.prog ++ Tryz.f3.resultTypes.toList) = true := by kernel_rfl
theorem po_joined : joinedFacts Tryz.prog 3 Tryz.f3 Rows.pipesOutSpec Rows.pipesOutRow = true :=
 joined_of (by kernel_rfl) p_laidOut p_rowed (by kernel_rfl) (by kernel_rfl) (by kernel_rfl) p_stops (by kernel_rfl) p_knobs po_inPlace po_unfollowed po_recurses po_named
  (by kernel_rfl) (by kernel_rfl) (by kernel_rfl) (by kernel_rfl) po_wide (by kernel_rfl) (by kernel_rfl) (by kernel_rfl) (by kernel_rfl) p_keys (by kernel_rfl) p_heard p_enter po_lifted po_make (by kernel_rfl) (by kernel_rfl) po_veiled po_fits
theorem po_func : Tryz.prog.funcNamed Rows.pipesOutRow.func = some 3 := by kernel_rfl
theorem po_inst : Tryz.f3.isInstance Tryz.prog Rows.pipesOutRow.origin Rows.pipesOutRow.targs := of_decide_eq_true (by kernel_rfl)
theorem po_wrap : Tryz.f3.isWrapper Tryz.prog Rows.pipesOutRow.wrapper Rows.pipesOutRow.mainSum := by unfold Func.isWrapper; first | (rw [if_pos (by decide +kernel)]; kernel_rfl) | (rw [if_neg (by decide +kernel)]; exact ⟨rfl, rfl⟩)
theorem po_params : parsOk Tryz.prog Tryz.f3 = true := by kernel_rfl
theorem po_init : Tryz.prog.inits.idxOf? 3 = none := by kernel_rfl
theorem po_standIn : (Tryz.f3.params.toList.all fun u => !Tryz.prog.wantsStandIn u) = true := by kernel_rfl
end Go.Proofs.YtiajboiobjfcoaaGreatDoor
