/-
  What is proved here: a row's closed facts, one by one; the program's own facts.
  Conditions: none.
  What is proved here: the closed facts of the row of pipesIso, one by one.
  Conditions: none.
-/
import Derived.Test.YtiajboiobjfcoaaGreatDoorRows
import Derived.KernelRfl
import Derived.JoinedOf
import Derived.Test.YtiajboiobjfcoaaGreatDoorSyM5
import Derived.SevenTiedAt
namespace Go.Sy
open Go.ChangeShapes Go.WideShapes
theorem joined_of {P : Program} {f : FuncId} {fn : Func} {s : ChangeSpec} {c : OpenClaim}
  (k1 : c.wf (OpenSpec.ofChange s) = true) (k2 : laidOutB P = true) (k3 : mapsRowed P = true) (k4 : fn.params.all (P.readableRec ·) = true) (k5 : namedTie P c.named s.vars = true)
  (k6 : (c.stops == []) = true) (k7 : (P.stops == []) = true) (k8 : (c.knobs == []) = true) (k9 : (P.stopKnobs == []) = true)
  (k10 : (c.inPlace == P.inPlace f) = true) (k11 : (c.unfollowed == P.unfollowed f) = true) (k12 : (c.recurses == P.recurses f) = true) (k13 : (c.named == P.varsNamed f) = true)
  (k14 : (c.maps == (fn.params.toList ++ s.plain.varTypes P).any (P.mapsRec ·)) = true) (k15 : (c.ifaces == (fn.params.toList ++ s.plain.varTypes P).any (P.ifacesRec ·)) = true) (k16 : (c.mapsOut == P.mapsAmong fn.resultTypes.toList) = true)
  (k17 : (c.loops == (fn.params.toList ++ s.plain.varTypes P).any (P.loopsFrom ·)) = true) (k18 : (c.wideKeys == (fn.params.toList ++ s.plain.varTypes P ++ fn.resultTypes.toList).any (P.wideKeysFrom ·)) = true)
  (k19 : s.vars.all (P.varReadable ·) = true) (k20 : fn.resultTypes.all (fun t => P.readableRec t && decide (t < P.types.size)) = true) (k21 : (c.ifacesOut == fn.resultTypes.toList.any (P.ifacesRec ·)) = true) (k22 : (c.loopsOut == fn.resultTypes.toList.any (P.loopsFrom ·)) = true)
  (k23 : (c.plainKeys == P.plainKeys) = true) (k24 : c.shortTexts.isNone = true) (k25 : P.stopsHeard = true) (k26 : P.mayEnter = true) (k27 : (c.lifted == P.liftsFinal) = true) (k28 : (P.make == some c.make) = true)
  (k29 : (c.kinds == (if c.domain.isEmpty then [] else fn.params.toList.map fun t => match P.underlying t with | some (.int k) => some k | _ => none)) = true) (k30 : (c.pinned == c.pinnedBy) = true)
  (k31 : (c.veiled == (fn.params.toList ++ s.plain.varTypes P ++ fn.resultTypes.toList).any (P.veiledRec ·)) = true) (k32 : c.veiledFits P fn.params.toList (fn.params.toList ++ s.plain.varTypes P ++ fn.resultTypes.toList) = true) :
  joinedFacts P f fn s c = true := by
 unfold joinedFacts
 simp only [Bool.and_eq_true]
 and_intros <;> first | assumption | exact k29 | (simp only [Bool.and_eq_true] at k20 k32; first | exact k20 | exact k32)
end Go.Sy
namespace Go.Proofs.YtiajboiobjfcoaaGreatDoor
set_option maxRecDepth 1000000
theorem p_laidOut : laidOutB Tryz.prog = true := by kernel_rfl
theorem p_rowed : mapsRowed Tryz.prog = true := by kernel_rfl
theorem p_stops : (Tryz.prog.stops == []) = true := by kernel_rfl
theorem p_knobs : (Tryz.prog.stopKnobs == []) = true := by kernel_rfl
theorem p_keys : (true == Tryz.prog.plainKeys) = true := by kernel_rfl
theorem p_heard : Tryz.prog.stopsHeard = true := by kernel_rfl
theorem p_enter : Tryz.prog.mayEnter = true := by kernel_rfl
end Go.Proofs.YtiajboiobjfcoaaGreatDoor

namespace Go.Proofs.YtiajboiobjfcoaaGreatDoor
open Go.Sy Go.ChangeShapes Go.WideShapes
set_option maxRecDepth 1000000
theorem pi_inPlace : (Rows.pipesIsoRow.inPlace == Tryz.prog.inPlace 5) = true := by kernel_rfl
theorem pi_unfollowed : (Rows.pipesIsoRow.unfollowed == Tryz.prog.unfollowed 5) = true := by kernel_rfl
theorem pi_recurses : (Rows.pipesIsoRow.recurses == Tryz.prog.recurses 5) = true := by kernel_rfl
theorem pi_named : (Rows.pipesIsoRow.named == Tryz.prog.varsNamed 5) = true := by kernel_rfl
theorem pi_lifted : (Rows.pipesIsoRow.lifted == Tryz.prog.liftsFinal) = true := by kernel_rfl
theorem pi_make : (Tryz.prog.make == some Rows.pipesIsoRow.make) = true := by kernel_rfl
theorem pi_wide : (Rows.pipesIsoRow.wideKeys == (Tryz.f5.params.toList ++ Rows.pipesIsoSpec.plain.varTypes Tryz.prog ++ Tryz.f5.resultTypes.toList).any (Tryz.prog.wideKeysFrom ·)) = true := by kernel_rfl
theorem pi_veiled : (Rows.pipesIsoRow.veiled == (Tryz.f5.params.toList ++ Rows.pipesIsoSpec.plain.varTypes Tryz.prog ++ Tryz.f5.resultTypes.toList).any (Tryz.prog.veiledRec ·)) = true := by kernel_rfl
theorem pi_fits : Rows.pipesIsoRow.veiledFits Tryz.prog Tryz.f5.params.toList (Tryz.f5.params.toList ++ Rows.pipesIsoSpec.plain.varTypes Tryz.prog ++ Tryz.f5.resultTypes.toList) = true := by kernel_rfl
theorem pi_joined : joinedFacts Tryz.prog 5 Tryz.f5 Rows.pipesIsoSpec Rows.pipesIsoRow = true :=
 joined_of (by kernel_rfl) p_laidOut p_rowed (by kernel_rfl) (by kernel_rfl) (by kernel_rfl) p_stops (by kernel_rfl) p_knobs pi_inPlace pi_unfollowed pi_recurses pi_named
  (by kernel_rfl) (by kernel_rfl) (by kernel_rfl) (by kernel_rfl) pi_wide (by kernel_rfl) (by kernel_rfl) (by kernel_rfl) (by kernel_rfl) p_keys (by kernel_rfl) p_heard p_enter pi_lifted pi_make (by kernel_rfl) (by kernel_rfl) pi_veiled pi_fits
theorem pi_func : Tryz.prog.funcNamed Rows.pipesIsoRow.func = some 5 := by kernel_rfl
theorem pi_inst : Tryz.f5.isInstance Tryz.prog Rows.pipesIsoRow.origin Rows.pipesIsoRow.targs := of_decide_eq_true (by kernel_rfl)
theorem pi_wrap : Tryz.f5.isWrapper Tryz.prog Rows.pipesIsoRow.wrapper Rows.pipesIsoRow.mainSum := by unfold Func.isWrapper; first | (rw [if_pos (by decide +kernel)]; kernel_rfl) | (rw [if_neg (by decide +kernel)]; exact ⟨rfl, rfl⟩)
theorem pi_params : parsOk Tryz.prog Tryz.f5 = true := by kernel_rfl
theorem pi_init : Tryz.prog.inits.idxOf? 5 = none := by kernel_rfl
theorem pi_standIn : (Tryz.f5.params.toList.all fun u => !Tryz.prog.wantsStandIn u) = true := by kernel_rfl
end Go.Proofs.YtiajboiobjfcoaaGreatDoor
