/-
  What is proved here: the parts cover all inputs of plugboardlaw18.HubsErrors.
  Conditions: none.
-/
import Derived.Test.YtgjhgbhoidnbfaaGreatDoorErrRun0
import Derived.Test.YtgjhgbhoidnbfaaGreatDoorErrRun1
import Derived.Test.YtgjhgbhoidnbfaaGreatDoorErrRun2
import Derived.Test.YtgjhgbhoidnbfaaGreatDoorErrRun3
import Derived.Test.YtgjhgbhoidnbfaaGreatDoorErrRun4
import Derived.Test.YtgjhgbhoidnbfaaGreatDoorErrRun5
import Derived.Test.YtgjhgbhoidnbfaaGreatDoorErrRun6
import Derived.Test.YtgjhgbhoidnbfaaGreatDoorErrRun7
import Derived.Test.YtgjhgbhoidnbfaaGreatDoorErrRun8
import Derived.Test.YtgjhgbhoidnbfaaGreatDoorErrRun9
import Derived.Test.YtgjhgbhoidnbfaaGreatDoorErrRun10
import Derived.Test.YtgjhgbhoidnbfaaGreatDoorErrRun11
namespace Go.Proofs.YtgjhgbhoidnbfaaGreatDoor
open Go.Sy Go.RowKit

set_option maxRecDepth 1000000

def errSmall : List (Int × Int) := [(-128, 0), (1, 1), (2, 2), (3, 3), (4, 4), (5, 5), (6, 6), (7, 7)]
def errBig : List (Int × Int) := [(8, 11), (12, 15), (16, 19), (20, 23), (24, 27), (28, 31), (32, 35), (36, 39), (40, 43), (44, 47), (48, 51), (52, 55), (56, 59), (60, 63), (64, 67), (68, 71), (72, 75), (76, 79), (80, 83), (84, 87), (88, 91), (92, 95), (96, 99), (100, 103), (104, 107), (108, 111), (112, 115), (116, 119), (120, 123), (124, 127)]
def errSpd : List ((Int × Int) × List (Int × Int)) := [((0, 0), [(-128, 127)]), ((1, 1), [(-128, 0), (1, 1), (2, 2), (3, 3), (4, 4), (5, 5), (6, 6), (7, 7), (8, 127)]), ((2, 2), [(-128, 0), (1, 1), (2, 2), (3, 3), (4, 4), (5, 5), (6, 6), (7, 7), (8, 127)]), ((3, 255), [(-128, 127)])]
def errBoxes : List ((Int × Int) × (Int × Int) × (Int × Int)) := (errSmall.flatMap fun z => errSpd.flatMap fun s => s.2.map fun p => (s.1, p, z)) ++ errBig.map fun z => ((0, 255), (-128, 127), z)

theorem errBoxes_eq : errBoxes = errBoxes0 ++ errBoxes1 ++ errBoxes2 ++ errBoxes3 ++ errBoxes4 ++ errBoxes5 ++ errBoxes6 ++ errBoxes7 ++ errBoxes8 ++ errBoxes9 ++ errBoxes10 ++ errBoxes11 := by decide +kernel

theorem err_all : ∀ q ∈ errBoxes.map errPc, allTrue (evFn Tryz.prog kwH 10 30 3 (paV errPa 0 0) (mem1 [] errPa) q) = true := by
  intro q hq
  obtain ⟨r, hr, rfl⟩ := List.mem_map.1 hq
  rw [errBoxes_eq] at hr
  simp only [List.mem_append] at hr
  rcases hr with ((((((((((h | h) | h) | h) | h) | h) | h) | h) | h) | h) | h) | h
  · exact err_runs0 r h
  · exact err_runs1 r h
  · exact err_runs2 r h
  · exact err_runs3 r h
  · exact err_runs4 r h
  · exact err_runs5 r h
  · exact err_runs6 r h
  · exact err_runs7 r h
  · exact err_runs8 r h
  · exact err_runs9 r h
  · exact err_runs10 r h
  · exact err_runs11 r h

theorem err_cover : ∀ ρ, PcR ρ ⟨[], paR errPa⟩ → ∃ q ∈ errBoxes.map errPc, PcR ρ q := by
  intro ρ hp
  have g0 := hp.rng 0 0 255 (by rfl)
  have g1 := hp.rng 1 (-128) 127 (by rfl)
  have g2 := hp.rng 2 (-128) 127 (by rfl)
  have g3 := hp.rng 3 0 1 (by rfl)
  have key : ∃ r ∈ errBoxes, (r.1.1 ≤ ρ 0 ∧ ρ 0 ≤ r.1.2) ∧ (r.2.1.1 ≤ ρ 1 ∧ ρ 1 ≤ r.2.1.2) ∧ (r.2.2.1 ≤ ρ 2 ∧ ρ 2 ≤ r.2.2.2) := by
    by_cases h : ρ 2 < 8
    · obtain ⟨z, hz, hz1⟩ : ∃ z ∈ errSmall, z.1 ≤ ρ 2 ∧ ρ 2 ≤ z.2 := by
        simp only [errSmall, List.mem_cons, List.not_mem_nil, or_false, exists_eq_or_imp, exists_eq_left]; omega
      obtain ⟨s, hs, hs1, p, hp, hp1⟩ : ∃ s ∈ errSpd, (s.1.1 ≤ ρ 0 ∧ ρ 0 ≤ s.1.2) ∧ ∃ p ∈ s.2, p.1 ≤ ρ 1 ∧ ρ 1 ≤ p.2 := by
        simp only [errSpd, List.mem_cons, List.not_mem_nil, or_false, exists_eq_or_imp, exists_eq_left]; omega
      exact ⟨(s.1, p, z), List.mem_append_left _ (List.mem_flatMap.2 ⟨z, hz, List.mem_flatMap.2 ⟨s, hs, List.mem_map.2 ⟨p, hp, rfl⟩⟩⟩), hs1, hp1, hz1⟩
    · obtain ⟨z, hz, hz1⟩ : ∃ z ∈ errBig, z.1 ≤ ρ 2 ∧ ρ 2 ≤ z.2 := by
        simp only [errBig, List.mem_cons, List.not_mem_nil, or_false, exists_eq_or_imp, exists_eq_left]; omega
      exact ⟨((0, 255), (-128, 127), z), List.mem_append_right _ (List.mem_map.2 ⟨z, hz, rfl⟩), g0, g1, hz1⟩
  obtain ⟨r, hr, h0, h1, h2⟩ := key
  refine ⟨errPc r, List.mem_map.2 ⟨r, hr, rfl⟩, ⟨fun d hd => (nomatch hd), fun i l u hi => ?_⟩⟩
  match i, hi with
  | 0, hi => rw [show r.1 = (l, u) from Option.some.inj hi] at h0; exact h0
  | 1, hi => rw [show r.2.1 = (l, u) from Option.some.inj hi] at h1; exact h1
  | 2, hi => rw [show r.2.2 = (l, u) from Option.some.inj hi] at h2; exact h2
  | 3, hi =>
    obtain ⟨rfl, rfl⟩ := Prod.mk.inj (Option.some.inj (show some ((0 : Int), (1 : Int)) = some (l, u) from hi))
    exact g3
  | i + 4, hi => exact nomatch hi

end Go.Proofs.YtgjhgbhoidnbfaaGreatDoor
