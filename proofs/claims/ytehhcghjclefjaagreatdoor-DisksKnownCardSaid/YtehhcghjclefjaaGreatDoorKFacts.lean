/-
  What is proved here: the closed facts of the row of disksKnown, one by one.
  Conditions: none.
-/
import Derived.Test.YtehhcghjclefjaaGreatDoorFacts
import Derived.Test.YtehhcghjclefjaaGreatDoorSyM5
import Derived.SevenTiedAt
namespace Go.Proofs.YtehhcghjclefjaaGreatDoor
open Go.Sy Go.ChangeShapes Go.WideShapes

set_option maxRecDepth 1000000

theorem dk_inPlace : (Rows.disksKnownRow.inPlace == Tryz.prog.inPlace 4) = true := by kernel_rfl
theorem dk_unfollowed : (Rows.disksKnownRow.unfollowed == Tryz.prog.unfollowed 4) = true := by kernel_rfl
theorem dk_recurses : (Rows.disksKnownRow.recurses == Tryz.prog.recurses 4) = true := by kernel_rfl
theorem dk_named : (Rows.disksKnownRow.named == Tryz.prog.varsNamed 4) = true := by kernel_rfl
theorem dk_lifted : (Rows.disksKnownRow.lifted == Tryz.prog.liftsFinal) = true := by kernel_rfl
theorem dk_make : (Tryz.prog.make == some Rows.disksKnownRow.make) = true := by kernel_rfl
theorem dk_wide : (Rows.disksKnownRow.wideKeys == (Tryz.f4.params.toList ++ Rows.disksKnownSpec.plain.varTypes Tryz.prog ++ Tryz.f4.resultTypes.toList).any (Tryz.prog.wideKeysFrom ·)) = true := by kernel_rfl
theorem dk_veiled : (Rows.disksKnownRow.veiled == (Tryz.f4.params.toList ++ Rows.disksKnownSpec.plain.varTypes Tryz.prog ++ Tryz.f4.resultTypes.toList).any (Tryz.prog.veiledRec ·)) = true := by kernel_rfl
theorem dk_fits : Rows.disksKnownRow.veiledFits Tryz.prog Tryz.f4.params.toList (Tryz.f4.params.toList ++ Rows.disksKnownSpec.plain.varTypes Tryz.prog ++ Tryz.f4.resultTypes.toList) = true := by kernel_rfl
theorem dk_joined : joinedFacts Tryz.prog 4 Tryz.f4 Rows.disksKnownSpec Rows.disksKnownRow = true :=
  joined_of (by kernel_rfl) p_laidOut p_rowed (by kernel_rfl) (by kernel_rfl) (by kernel_rfl) p_stops (by kernel_rfl) p_knobs dk_inPlace dk_unfollowed dk_recurses dk_named
    (by kernel_rfl) (by kernel_rfl) (by kernel_rfl) (by kernel_rfl) dk_wide (by kernel_rfl) (by kernel_rfl) (by kernel_rfl) (by kernel_rfl) p_keys (by kernel_rfl) p_heard p_enter dk_lifted dk_make (by kernel_rfl) (by kernel_rfl) dk_veiled dk_fits
theorem dk_func : Tryz.prog.funcNamed Rows.disksKnownRow.func = some 4 := by kernel_rfl
theorem dk_inst : Tryz.f4.isInstance Tryz.prog Rows.disksKnownRow.origin Rows.disksKnownRow.targs := of_decide_eq_true (by kernel_rfl)
theorem dk_wrap : Tryz.f4.isWrapper Tryz.prog Rows.disksKnownRow.wrapper Rows.disksKnownRow.mainSum := by unfold Func.isWrapper; first | (rw [if_pos (by decide +kernel)]; kernel_rfl) | (rw [if_neg (by decide +kernel)]; exact ⟨rfl, rfl⟩)
theorem dk_params : parsOk Tryz.prog Tryz.f4 = true := by kernel_rfl
theorem dk_init : Tryz.prog.inits.idxOf? 4 = none := by kernel_rfl
theorem dk_standIn : (Tryz.f4.params.toList.all fun u => !Tryz.prog.wantsStandIn u) = true := by kernel_rfl
end Go.Proofs.YtehhcghjclefjaaGreatDoor
