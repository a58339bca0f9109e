/-
  What is proved here: plugboardlaw18.HubsErrors returns true for every input.
  Conditions: the tables of unicode/utf8 are laid, which the card ties to the program's text.
-/
import Derived.Test.YtgjhgbhoidnbfaaGreatDoorErrParts
import Derived.Test.YtgjhgbhoidnbfaaGreatDoorErrFacts
import Derived.Test.YtgjhgbhoidnbfaaGreatDoorCards
import Derived.Test.YtgjhgbhoidnbfaaGreatDoorTie
import Derived.Lay
import Derived.MakeChecks
import Derived.SevenTiedAt
namespace Go.Proofs.YtgjhgbhoidnbfaaGreatDoor
open Go.Sy Go.RowKit Go.ChangeShapes Go.WideShapes Go.ChangeAt

set_option maxRecDepth 1000000

/-- the laid variables -/
def heLaid : List (String × DataW Unit) := Rows.hubsErrorsRow.laid

theorem he_pa : Tryz.f3.params.toList.mapM (paOf Tryz.prog) = some errPa := by kernel_rfl

theorem he_row (os : Os) (started : os.Started) (H : Type) (enc : TypeId × Value → H) :
    ReturnsInHanded {} Tryz.checked os 3 .any (fun w args => (Rows.hubsErrorsSpec.pre enc Tryz.prog Tryz.f3 [] false w args ∧ laidMetH Tryz.prog heLaid w) ∧ sizedMet enc Tryz.prog Tryz.f3 (OpenSpec.ofChange Rows.hubsErrorsSpec) false w args)
      (Rows.hubsErrorsSpec.post enc Tryz.prog Tryz.f3 false true false false) := by
  refine law_lifted_laid (C := Tryz.checked) (fn := Tryz.f3) (tb := 4) own started he_init Tryz.func3 p_laidOut he_params (by kernel_rfl) (by kernel_rfl) rfl ?_
    (ChangeSpec.witness_shaped (enc := enc) (C := Tryz.checked) (os := os) (X := fun w _ => laidMetH Tryz.prog heLaid w) false (World.laidAll Tryz.prog os heLaid)
      #[.int .u8 0, .agg #[.int .i8 0, .int .i8 0], .bool false] 8 (World.laidAll_os _ _ _) (World.shaped_of_ZipB (by as_aux_lemma => kernel_rfl) (by as_aux_lemma => kernel_rfl)) (by as_aux_lemma => kernel_rfl) (by as_aux_lemma => kernel_rfl) (by as_aux_lemma => kernel_rfl)
      (by rw [MakeChecks.laidMetH_plain _ _ _ (by kernel_rfl)]; exact laidMet_laidAll _ (by as_aux_lemma => kernel_rfl) (by as_aux_lemma => kernel_rfl))) ?_
  · intro ds hd
    match ds, hd with
    | [_, _, _], _ => rfl
  · intro W base args ds ps hval hA _ _
    exact law_callsP plain kwH_ok he_pa (by kernel_rfl) (by kernel_rfl) err_cover err_all hval hA (fun x hx => nomatch hx)

theorem he_holds : Rows.HubsErrorsSaid :=
  OpenClaim.holds_of_wide 3 Tryz.f3 rfl rfl rfl rfl rfl rfl rfl ⟨rfl, rfl, rfl, rfl, rfl⟩ rfl rfl rfl rfl rfl he_func Tryz.func3 he_joined he_inst he_wrap
    (fun os started H enc _ => he_row os started H enc)

theorem he_card : Rows.HubsErrorsCardSaid :=
  Claim7.holds_tied_plain_at .later [] [.data, .pinned] true (true, "272caa82ea8cf00cbbcc3273161424ed2b72c446829e8f80baf873d44b2033e9") true
    he_holds (fun _ h => by cases h) (by as_aux_lemma => kernel_rfl) (fun _ h => by cases h) hubsErrors_row_tie rfl ⟨rfl, rfl⟩ (by as_aux_lemma => kernel_rfl) rfl
    (fun f fn hf hfn => by
      obtain rfl : f = 3 := Option.some.inj (he_func.symm.trans hf) |>.symm
      obtain rfl : fn = Tryz.f3 := (Option.some.inj (Tryz.func3.symm.trans hfn)).symm
      exact ⟨by as_aux_lemma => kernel_rfl, fun j t ht => by
        have hm : t ∈ Tryz.f3.params.toList := by simpa using Array.mem_of_getElem? ht
        exact (show Tryz.prog.wantsStandIn t = false by simpa using List.all_eq_true.1 he_standIn t hm)⟩)
    (by as_aux_lemma => kernel_rfl)
#print axioms he_card
end Go.Proofs.YtgjhgbhoidnbfaaGreatDoor
