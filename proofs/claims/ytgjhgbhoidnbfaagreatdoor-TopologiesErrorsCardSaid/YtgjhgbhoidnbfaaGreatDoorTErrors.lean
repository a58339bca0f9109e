/-
  What is proved here: plugboardlaw20.TopologiesErrors returns true for every input.
  Conditions: the tables of unicode/utf8 are laid, which the card ties to the program's text.
-/
import Derived.Test.YtgjhgbhoidnbfaaGreatDoorTRun0
import Derived.Test.YtgjhgbhoidnbfaaGreatDoorTRun1
import Derived.Test.YtgjhgbhoidnbfaaGreatDoorTRun2
import Derived.Test.YtgjhgbhoidnbfaaGreatDoorTRun3
import Derived.Test.YtgjhgbhoidnbfaaGreatDoorTRun4
import Derived.Test.YtgjhgbhoidnbfaaGreatDoorTRun5
import Derived.Test.YtgjhgbhoidnbfaaGreatDoorTRun6
import Derived.Test.YtgjhgbhoidnbfaaGreatDoorTRun7
import Derived.Test.YtgjhgbhoidnbfaaGreatDoorTRun8
import Derived.Test.YtgjhgbhoidnbfaaGreatDoorTCover
import Derived.Test.YtgjhgbhoidnbfaaGreatDoorTFacts
import Derived.Test.YtgjhgbhoidnbfaaGreatDoorCards
import Derived.Test.YtgjhgbhoidnbfaaGreatDoorTie
import Derived.Lay
import Derived.MakeChecks
import Derived.SevenTiedAt
namespace Go.Proofs.YtgjhgbhoidnbfaaGreatDoor
open Go.Sy Go.RowKit Go.ChangeShapes Go.WideShapes Go.ChangeAt

set_option maxRecDepth 1000000

/-- the laid variables -/
def teLaid : List (String × DataW Unit) := Rows.topologiesErrorsRow.laid

theorem te_pa : Tryz.f5.params.toList.mapM (paOf Tryz.prog) = some terrPa := by kernel_rfl

theorem terr_runs : ∀ q ∈ terrPcs, allTrue (evFn Tryz.prog kwT 10 30 5 (paV terrPa 0 0) (mem1 [] terrPa) q) = true := by
  intro q hq
  simp only [terrPcs, List.mem_flatMap, List.mem_map, List.mem_range] at hq
  obtain ⟨r, hr, a, ha, b, hb, rfl⟩ := hq
  simp only [terrParts, List.mem_cons, List.not_mem_nil, or_false] at hr
  rcases hr with rfl | rfl | rfl | rfl | rfl | rfl | rfl | rfl | rfl
  · exact terr_run0 a b ha hb
  · exact terr_run1 a b ha hb
  · exact terr_run2 a b ha hb
  · exact terr_run3 a b ha hb
  · exact terr_run4 a b ha hb
  · exact terr_run5 a b ha hb
  · exact terr_run6 a b ha hb
  · exact terr_run7 a b ha hb
  · exact terr_run8 a b ha hb

theorem te_row (os : Os) (started : os.Started) (H : Type) (enc : TypeId × Value → H) :
    ReturnsInHanded {} Tryz.checked os 5 .any (fun w args => (Rows.topologiesErrorsSpec.pre enc Tryz.prog Tryz.f5 [] false w args ∧ laidMetH Tryz.prog teLaid w) ∧ sizedMet enc Tryz.prog Tryz.f5 (OpenSpec.ofChange Rows.topologiesErrorsSpec) false w args)
      (Rows.topologiesErrorsSpec.post enc Tryz.prog Tryz.f5 false true false false) := by
  refine law_lifted_laid (C := Tryz.checked) (fn := Tryz.f5) (tb := 4) t_own started te_init Tryz.func5 p_laidOut te_params (by kernel_rfl) (by kernel_rfl) rfl ?_
    (ChangeSpec.witness_shaped (enc := enc) (C := Tryz.checked) (os := os) (X := fun w _ => laidMetH Tryz.prog teLaid w) false (World.laidAll Tryz.prog os teLaid)
      #[.int .i64 0, .agg #[.int .u8 0, .int .u8 0]] 8 (World.laidAll_os _ _ _) (World.shaped_of_ZipB (by as_aux_lemma => kernel_rfl) (by as_aux_lemma => kernel_rfl)) (by as_aux_lemma => kernel_rfl) (by as_aux_lemma => kernel_rfl) (by as_aux_lemma => kernel_rfl)
      (by rw [MakeChecks.laidMetH_plain _ _ _ (by kernel_rfl)]; exact laidMet_laidAll _ (by as_aux_lemma => kernel_rfl) (by as_aux_lemma => kernel_rfl))) ?_
  · intro ds hd
    match ds, hd with
    | [_, _], _ => rfl
  · intro W base args ds ps hval hA _ _
    exact law_callsP t_plain kwT_ok te_pa (by kernel_rfl) (by kernel_rfl) terr_cover terr_runs hval hA (fun x hx => nomatch hx)

theorem te_holds : Rows.TopologiesErrorsSaid :=
  OpenClaim.holds_of_wide 5 Tryz.f5 rfl rfl rfl rfl rfl rfl rfl ⟨rfl, rfl, rfl, rfl, rfl⟩ rfl rfl rfl rfl rfl te_func Tryz.func5 te_joined te_inst te_wrap
    (fun os started H enc _ => te_row os started H enc)

theorem te_card : Rows.TopologiesErrorsCardSaid :=
  Claim7.holds_tied_plain_at .later [] [.data, .pinned] true (true, "272caa82ea8cf00cbbcc3273161424ed2b72c446829e8f80baf873d44b2033e9") true
    te_holds (fun _ h => by cases h) (by as_aux_lemma => kernel_rfl) (fun _ h => by cases h) topologiesErrors_row_tie rfl ⟨rfl, rfl⟩ (by as_aux_lemma => kernel_rfl) rfl
    (fun f fn hf hfn => by
      obtain rfl : f = 5 := Option.some.inj (te_func.symm.trans hf) |>.symm
      obtain rfl : fn = Tryz.f5 := (Option.some.inj (Tryz.func5.symm.trans hfn)).symm
      exact ⟨by as_aux_lemma => kernel_rfl, fun j t ht => by
        have hm : t ∈ Tryz.f5.params.toList := by simpa using Array.mem_of_getElem? ht
        exact (show Tryz.prog.wantsStandIn t = false by simpa using List.all_eq_true.1 te_standIn t hm)⟩)
    (by as_aux_lemma => kernel_rfl)
#print axioms te_card
end Go.Proofs.YtgjhgbhoidnbfaaGreatDoor
