/-
  What is proved here: the closed facts of the row of hubsDevice, one by one.
  Conditions: none.
-/
import Derived.Test.YtafkokkcnnfnlaaGreatDoorFacts
import Derived.Test.YtafkokkcnnfnlaaGreatDoorSyM5
import Derived.SevenTiedAt
namespace Go.Proofs.YtafkokkcnnfnlaaGreatDoor
open Go.Sy Go.ChangeShapes Go.WideShapes

set_option maxRecDepth 1000000

theorem hd_inPlace : (Rows.hubsDeviceRow.inPlace == Tryz.prog.inPlace 3) = true := by kernel_rfl
theorem hd_unfollowed : (Rows.hubsDeviceRow.unfollowed == Tryz.prog.unfollowed 3) = true := by kernel_rfl
theorem hd_recurses : (Rows.hubsDeviceRow.recurses == Tryz.prog.recurses 3) = true := by kernel_rfl
theorem hd_named : (Rows.hubsDeviceRow.named == Tryz.prog.varsNamed 3) = true := by kernel_rfl
theorem hd_lifted : (Rows.hubsDeviceRow.lifted == Tryz.prog.liftsFinal) = true := by kernel_rfl
theorem hd_make : (Tryz.prog.make == some Rows.hubsDeviceRow.make) = true := by kernel_rfl
theorem hd_wide : (Rows.hubsDeviceRow.wideKeys == (Tryz.f3.params.toList ++ Rows.hubsDeviceSpec.plain.varTypes Tryz.prog ++ Tryz.f3.resultTypes.toList).any (Tryz.prog.wideKeysFrom ·)) = true := by kernel_rfl
theorem hd_veiled : (Rows.hubsDeviceRow.veiled == (Tryz.f3.params.toList ++ Rows.hubsDeviceSpec.plain.varTypes Tryz.prog ++ Tryz.f3.resultTypes.toList).any (Tryz.prog.veiledRec ·)) = true := by kernel_rfl
theorem hd_fits : Rows.hubsDeviceRow.veiledFits Tryz.prog Tryz.f3.params.toList (Tryz.f3.params.toList ++ Rows.hubsDeviceSpec.plain.varTypes Tryz.prog ++ Tryz.f3.resultTypes.toList) = true := by kernel_rfl
theorem hd_joined : joinedFacts Tryz.prog 3 Tryz.f3 Rows.hubsDeviceSpec Rows.hubsDeviceRow = true :=
  joined_of (by kernel_rfl) p_laidOut p_rowed (by kernel_rfl) (by kernel_rfl) (by kernel_rfl) p_stops (by kernel_rfl) p_knobs hd_inPlace hd_unfollowed hd_recurses hd_named
    (by kernel_rfl) (by kernel_rfl) (by kernel_rfl) (by kernel_rfl) hd_wide (by kernel_rfl) (by kernel_rfl) (by kernel_rfl) (by kernel_rfl) p_keys (by kernel_rfl) p_heard p_enter hd_lifted hd_make (by kernel_rfl) (by kernel_rfl) hd_veiled hd_fits
theorem hd_func : Tryz.prog.funcNamed Rows.hubsDeviceRow.func = some 3 := by kernel_rfl
theorem hd_inst : Tryz.f3.isInstance Tryz.prog Rows.hubsDeviceRow.origin Rows.hubsDeviceRow.targs := of_decide_eq_true (by kernel_rfl)
theorem hd_wrap : Tryz.f3.isWrapper Tryz.prog Rows.hubsDeviceRow.wrapper Rows.hubsDeviceRow.mainSum := by unfold Func.isWrapper; first | (rw [if_pos (by decide +kernel)]; kernel_rfl) | (rw [if_neg (by decide +kernel)]; exact ⟨rfl, rfl⟩)
theorem hd_params : parsOk Tryz.prog Tryz.f3 = true := by kernel_rfl
theorem hd_init : Tryz.prog.inits.idxOf? 3 = none := by kernel_rfl
theorem hd_standIn : (Tryz.f3.params.toList.all fun u => !Tryz.prog.wantsStandIn u) = true := by kernel_rfl
end Go.Proofs.YtafkokkcnnfnlaaGreatDoor
