/-
  What is proved here: plugboardlaw18.HubsWake returns true for every input.
  Conditions: the tables of unicode/utf8 are laid, which the card ties to the program's text.
-/
import Derived.Test.YtgjhgbhoidnbfaaGreatDoorWRun0
import Derived.Test.YtgjhgbhoidnbfaaGreatDoorWRun1
import Derived.Test.YtgjhgbhoidnbfaaGreatDoorWRun2
import Derived.Test.YtgjhgbhoidnbfaaGreatDoorWRun3
import Derived.Test.YtgjhgbhoidnbfaaGreatDoorWRun4
import Derived.Test.YtgjhgbhoidnbfaaGreatDoorWRun5
import Derived.Test.YtgjhgbhoidnbfaaGreatDoorWRun6
import Derived.Test.YtgjhgbhoidnbfaaGreatDoorWRun7
import Derived.Test.YtgjhgbhoidnbfaaGreatDoorWRun8
import Derived.Test.YtgjhgbhoidnbfaaGreatDoorWRun9
import Derived.Test.YtgjhgbhoidnbfaaGreatDoorWRun10
import Derived.Test.YtgjhgbhoidnbfaaGreatDoorWRun11
import Derived.Test.YtgjhgbhoidnbfaaGreatDoorWRun12
import Derived.Test.YtgjhgbhoidnbfaaGreatDoorWRun13
import Derived.Test.YtgjhgbhoidnbfaaGreatDoorWRun14
import Derived.Test.YtgjhgbhoidnbfaaGreatDoorWRun15
import Derived.Test.YtgjhgbhoidnbfaaGreatDoorWCover
import Derived.Test.YtgjhgbhoidnbfaaGreatDoorWakeFacts
import Derived.Test.YtgjhgbhoidnbfaaGreatDoorCards
import Derived.Test.YtgjhgbhoidnbfaaGreatDoorTie
import Derived.Lay
import Derived.MakeChecks
import Derived.SevenTiedAt
namespace Go.Proofs.YtgjhgbhoidnbfaaGreatDoor
open Go.Sy Go.RowKit Go.ChangeShapes Go.WideShapes Go.ChangeAt

set_option maxRecDepth 1000000

/-- the laid variables -/
def hwLaid : List (String × DataW Unit) := Rows.hubsWakeRow.laid

theorem hw_pa : Tryz.f4.params.toList.mapM (paOf Tryz.prog) = some wakePa := by kernel_rfl

theorem wake_all : ∀ q ∈ wakeAll.map wakePc, allTrue (evFn Tryz.prog kwH 10 30 4 (paV wakePa 0 0) (mem1 [] wakePa) q) = true := by
  intro q hq
  obtain ⟨r, hr, rfl⟩ := List.mem_map.1 hq
  obtain ⟨w, hw, hr⟩ := List.mem_flatMap.1 hr
  have hw : w < 8 := List.mem_range.1 hw
  have key : ∀ h w, h < 2 → w < 8 → ∀ r ∈ wakeBoxesH h w, wakeRun r = true
    | 0, 0, _, _ => wake_runs0
    | 1, 0, _, _ => wake_runs1
    | 0, 1, _, _ => wake_runs2
    | 1, 1, _, _ => wake_runs3
    | 0, 2, _, _ => wake_runs4
    | 1, 2, _, _ => wake_runs5
    | 0, 3, _, _ => wake_runs6
    | 1, 3, _, _ => wake_runs7
    | 0, 4, _, _ => wake_runs8
    | 1, 4, _, _ => wake_runs9
    | 0, 5, _, _ => wake_runs10
    | 1, 5, _, _ => wake_runs11
    | 0, 6, _, _ => wake_runs12
    | 1, 6, _, _ => wake_runs13
    | 0, 7, _, _ => wake_runs14
    | 1, 7, _, _ => wake_runs15
    | h + 2, _, e, _ => absurd e (by omega)
    | _, w + 8, _, e => absurd e (by omega)
  obtain ⟨h, hh, hr⟩ := List.mem_flatMap.1 hr
  exact key h w (List.mem_range.1 hh) hw r hr

theorem hw_row (os : Os) (started : os.Started) (H : Type) (enc : TypeId × Value → H) :
    ReturnsInHanded {} Tryz.checked os 4 .any (fun w args => (Rows.hubsWakeSpec.pre enc Tryz.prog Tryz.f4 [] false w args ∧ laidMetH Tryz.prog hwLaid w) ∧ sizedMet enc Tryz.prog Tryz.f4 (OpenSpec.ofChange Rows.hubsWakeSpec) false w args)
      (Rows.hubsWakeSpec.post enc Tryz.prog Tryz.f4 false true false false) := by
  refine law_lifted_laid (C := Tryz.checked) (fn := Tryz.f4) (tb := 4) own started hw_init Tryz.func4 p_laidOut hw_params (by kernel_rfl) (by kernel_rfl) rfl ?_
    (ChangeSpec.witness_shaped (enc := enc) (C := Tryz.checked) (os := os) (X := fun w _ => laidMetH Tryz.prog hwLaid w) false (World.laidAll Tryz.prog os hwLaid)
      #[.int .u8 0, .int .u8 0] 8 (World.laidAll_os _ _ _) (World.shaped_of_ZipB (by as_aux_lemma => kernel_rfl) (by as_aux_lemma => kernel_rfl)) (by as_aux_lemma => kernel_rfl) (by as_aux_lemma => kernel_rfl) (by as_aux_lemma => kernel_rfl)
      (by rw [MakeChecks.laidMetH_plain _ _ _ (by kernel_rfl)]; exact laidMet_laidAll _ (by as_aux_lemma => kernel_rfl) (by as_aux_lemma => kernel_rfl))) ?_
  · intro ds hd
    match ds, hd with
    | [_, _], _ => rfl
  · intro W base args ds ps hval hA _ _
    exact law_callsP plain kwH_ok hw_pa (by kernel_rfl) (by kernel_rfl) wake_cover wake_all hval hA (fun x hx => nomatch hx)

theorem hw_holds : Rows.HubsWakeSaid :=
  OpenClaim.holds_of_wide 4 Tryz.f4 rfl rfl rfl rfl rfl rfl rfl ⟨rfl, rfl, rfl, rfl, rfl⟩ rfl rfl rfl rfl rfl hw_func Tryz.func4 hw_joined hw_inst hw_wrap
    (fun os started H enc _ => hw_row os started H enc)

theorem hw_card : Rows.HubsWakeCardSaid :=
  Claim7.holds_tied_plain_at .later [] [.data, .pinned] true (true, "272caa82ea8cf00cbbcc3273161424ed2b72c446829e8f80baf873d44b2033e9") true
    hw_holds (fun _ h => by cases h) (by as_aux_lemma => kernel_rfl) (fun _ h => by cases h) hubsWake_row_tie rfl ⟨rfl, rfl⟩ (by as_aux_lemma => kernel_rfl) rfl
    (fun f fn hf hfn => by
      obtain rfl : f = 4 := Option.some.inj (hw_func.symm.trans hf) |>.symm
      obtain rfl : fn = Tryz.f4 := (Option.some.inj (Tryz.func4.symm.trans hfn)).symm
      exact ⟨by as_aux_lemma => kernel_rfl, fun j t ht => by
        have hm : t ∈ Tryz.f4.params.toList := by simpa using Array.mem_of_getElem? ht
        exact (show Tryz.prog.wantsStandIn t = false by simpa using List.all_eq_true.1 hw_standIn t hm)⟩)
    (by as_aux_lemma => kernel_rfl)
#print axioms hw_card
end Go.Proofs.YtgjhgbhoidnbfaaGreatDoor
