/-
  What is proved here: plugboardlaw23.PipesNone returns true for every input.
  Conditions: the table of the pipes' package is laid, which the card ties to the program's text.
-/
import Derived.Test.YtfliaagohfoipaaGreatDoorNoParts
import Derived.Test.YtfliaagohfoipaaGreatDoorNFacts
import Derived.Test.YtfliaagohfoipaaGreatDoorCards
import Derived.Test.YtfliaagohfoipaaGreatDoorTie
import Derived.Lay
import Derived.LaidMore
import Derived.MakeChecks
import Derived.SevenTiedAt
namespace Go.Proofs.YtfliaagohfoipaaGreatDoor
open Go.Sy Go.RowKit Go.ChangeShapes Go.WideShapes Go.ChangeAt

set_option maxRecDepth 1000000

theorem no_pa : Tryz.f3.params.toList.mapM (paOf Tryz.prog) = some noPa := by kernel_rfl
theorem p_handles : (pLaid.all fun x => x.2.handleName?.isNone) = true := by kernel_rfl

/-- the door's own heap meets the condition -/
theorem door_met (os : Os) (args : Array Value) : laidMetH Tryz.prog pLaid ((World.doorLaid Tryz.prog 400 os).forCall (fun _ _ => 0) ⟨#[], args, []⟩).memory :=
  laidMetH_of_parts3 (fuel := 8) (laidMet_of_run' 8 (by as_aux_lemma => kernel_rfl) (by as_aux_lemma => kernel_rfl)) (by as_aux_lemma => kernel_rfl) (by as_aux_lemma => kernel_rfl)

theorem pn_row (os : Os) (started : os.Started) (H : Type) (enc : TypeId × Value → H) :
    ReturnsInHanded {} Tryz.checked os 3 .any (fun w args => (Rows.pipesNoneSpec.pre enc Tryz.prog Tryz.f3 [] false w args ∧ laidMetH Tryz.prog pLaid w) ∧ sizedMet enc Tryz.prog Tryz.f3 (OpenSpec.ofChange Rows.pipesNoneSpec) false w args)
      (Rows.pipesNoneSpec.post enc Tryz.prog Tryz.f3 false true false false) := by
  refine law_lifted_laid (C := Tryz.checked) (fn := Tryz.f3) (tb := 4) own started pn_init Tryz.func3 p_laidOut pn_params (by kernel_rfl) (by kernel_rfl) rfl ?_
    (ChangeSpec.witness_shaped (enc := enc) (C := Tryz.checked) (os := os) (X := fun w _ => laidMetH Tryz.prog pLaid w) false (World.doorLaid Tryz.prog 400 os)
      #[.agg #[.int .u8 0, .int .u8 0, .bool false, .int .u16 0, .int .u8 0, .int .u8 0, .int .u8 0, .int .u8 0], .agg #[.int .u8 0, .slice none 0 0]] 8 rfl (World.shaped_of_RefB (by as_aux_lemma => kernel_rfl) (by as_aux_lemma => kernel_rfl)) (by as_aux_lemma => kernel_rfl) (by as_aux_lemma => kernel_rfl) (by as_aux_lemma => kernel_rfl)
      (door_met os _)) ?_
  · intro ds hd
    match ds, hd with
    | [_, _], _ => rfl
  · intro W base args ds ps hval hA _ hL
    exact law_callsP plain kwP_ok no_pa (by kernel_rfl) (by kernel_rfl) (fun ρ hp => no_cover hp) no_runs hval hA (laidMet_ok p_laidG p_handles hL)

theorem pn_holds : Rows.PipesNoneSaid :=
  OpenClaim.holds_of_wide 3 Tryz.f3 rfl rfl rfl rfl rfl rfl rfl ⟨rfl, rfl, rfl, rfl, rfl⟩ rfl rfl rfl rfl rfl pn_func Tryz.func3 pn_joined pn_inst pn_wrap
    (fun os started H enc _ => pn_row os started H enc)

theorem pn_card : Rows.PipesNoneCardSaid :=
  Claim7.holds_tied_plain_at .later [] [.mapped] true (true, "6c725a2264610c270a4135a240d9256e874977163e4acbc40bd27e0b28abba6a") false
    pn_holds (fun _ h => by cases h) (by as_aux_lemma => kernel_rfl) (fun _ h => by cases h) pipesNone_row_tie rfl ⟨rfl, rfl⟩ (by as_aux_lemma => kernel_rfl) rfl
    (fun f fn hf hfn => by
      obtain rfl : f = 3 := Option.some.inj (pn_func.symm.trans hf) |>.symm
      obtain rfl : fn = Tryz.f3 := (Option.some.inj (Tryz.func3.symm.trans hfn)).symm
      exact ⟨by as_aux_lemma => kernel_rfl, fun j t ht => by
        have hm : t ∈ Tryz.f3.params.toList := by simpa using Array.mem_of_getElem? ht
        exact (show Tryz.prog.wantsStandIn t = false by simpa using List.all_eq_true.1 pn_standIn t hm)⟩)
    (by as_aux_lemma => kernel_rfl)
#print axioms pn_card
end Go.Proofs.YtfliaagohfoipaaGreatDoor
