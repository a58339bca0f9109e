/-
  What is proved here: all runs of plugboardlaw23.PipesOf return true, and they cover every input.
  Conditions: the table of the pipes' package is laid.
-/
import Derived.Test.YtfliaagohfoipaaGreatDoorOfRun0
import Derived.Test.YtfliaagohfoipaaGreatDoorOfRun1
import Derived.Test.YtfliaagohfoipaaGreatDoorOfRun2
import Derived.Test.YtfliaagohfoipaaGreatDoorOfRun3
import Derived.Test.YtfliaagohfoipaaGreatDoorOfRun4
namespace Go.Proofs.YtfliaagohfoipaaGreatDoor
open Go.Sy Go.RowKit

set_option maxRecDepth 1000000

def ofParts : List (List (Nat × Int × Int)) := [ofP (3, 255) (0, 255) (0, 255), ofP (0, 0) (0, 0) (0, 255), ofP (0, 0) (1, 1) (0, 255), ofP (0, 0) (2, 2) (0, 255), ofP (0, 0) (3, 3) (0, 255), ofP (0, 0) (4, 255) (0, 255), ofP (1, 1) (0, 0) (0, 255), ofP (1, 1) (2, 2) (0, 255), ofP (1, 1) (4, 255) (0, 255), ofP (1, 1) (1, 1) (17, 255), ofP (1, 1) (1, 1) (0, 4), ofP (1, 1) (1, 1) (5, 10), ofP (1, 1) (1, 1) (11, 16), ofP (1, 1) (3, 3) (0, 255), ofP (2, 2) (0, 0) (0, 255), ofP (2, 2) (2, 2) (0, 255), ofP (2, 2) (4, 255) (0, 255), ofP (2, 2) (1, 1) (0, 4), ofP (2, 2) (1, 1) (5, 10), ofP (2, 2) (1, 1) (11, 16), ofP (2, 2) (1, 1) (17, 255), ofP (2, 2) (3, 3) (0, 4), ofP (2, 2) (3, 3) (5, 10), ofP (2, 2) (3, 3) (11, 16), ofP (2, 2) (3, 3) (17, 255)]

theorem of_runs : ∀ l ∈ ofParts, ofRun l = true := by
  simp only [ofParts, List.forall_mem_cons]
  exact ⟨of_0, of_1, of_2, of_3, of_4, of_5, of_6, of_7, of_8, of_9, of_10, of_11, of_12, of_13, of_14, of_15, of_16, of_17, of_18, of_19, of_20, of_21, of_22, of_23, of_24, fun _ h => nomatch h⟩

theorem of_cover {ρ : Nat → Int} (hp : PcR ρ ⟨[], paR ofPa⟩) : ∃ q ∈ ofParts.map ofQ, PcR ρ q := by
  have hr := hp.rng
  have h3 := hr 3 0 255 (by rfl)
  have h6 := hr 6 0 255 (by rfl)
  have h8 := hr 8 0 255 (by rfl)
  have key : ∀ s k i : Int × Int, ofP s k i ∈ ofParts → (s.1 ≤ ρ 3 ∧ ρ 3 ≤ s.2) → (k.1 ≤ ρ 6 ∧ ρ 6 ≤ k.2) → (i.1 ≤ ρ 8 ∧ ρ 8 ≤ i.2) → ∃ q ∈ ofParts.map ofQ, PcR ρ q := fun s k i hm a b c =>
    ⟨_, List.mem_map.2 ⟨_, hm, rfl⟩, fun d hd => (nomatch hd), rngs_R hr (l := ofP s k i) (by
      simp only [ofP, List.forall_mem_cons]
      exact ⟨a, b, c, fun _ h => nomatch h⟩)⟩
  rcases (by omega : (0 ≤ ρ 3 ∧ ρ 3 ≤ 0) ∨ (1 ≤ ρ 3 ∧ ρ 3 ≤ 1) ∨ (2 ≤ ρ 3 ∧ ρ 3 ≤ 2) ∨ (3 ≤ ρ 3 ∧ ρ 3 ≤ 255)) with hs | hs | hs | hs
  · rcases (by omega : (0 ≤ ρ 6 ∧ ρ 6 ≤ 0) ∨ (1 ≤ ρ 6 ∧ ρ 6 ≤ 1) ∨ (2 ≤ ρ 6 ∧ ρ 6 ≤ 2) ∨ (3 ≤ ρ 6 ∧ ρ 6 ≤ 3) ∨ (4 ≤ ρ 6 ∧ ρ 6 ≤ 255)) with hk | hk | hk | hk | hk
    · exact key (0, 0) (0, 0) (0, 255) (by simp [ofParts, ofP]) hs hk h8
    · exact key (0, 0) (1, 1) (0, 255) (by simp [ofParts, ofP]) hs hk h8
    · exact key (0, 0) (2, 2) (0, 255) (by simp [ofParts, ofP]) hs hk h8
    · exact key (0, 0) (3, 3) (0, 255) (by simp [ofParts, ofP]) hs hk h8
    · exact key (0, 0) (4, 255) (0, 255) (by simp [ofParts, ofP]) hs hk h8
  · rcases (by omega : (0 ≤ ρ 6 ∧ ρ 6 ≤ 0) ∨ (1 ≤ ρ 6 ∧ ρ 6 ≤ 1) ∨ (2 ≤ ρ 6 ∧ ρ 6 ≤ 2) ∨ (3 ≤ ρ 6 ∧ ρ 6 ≤ 3) ∨ (4 ≤ ρ 6 ∧ ρ 6 ≤ 255)) with hk | hk | hk | hk | hk
    · exact key (1, 1) (0, 0) (0, 255) (by simp [ofParts, ofP]) hs hk h8
    · rcases (by omega : (0 ≤ ρ 8 ∧ ρ 8 ≤ 4) ∨ (5 ≤ ρ 8 ∧ ρ 8 ≤ 10) ∨ (11 ≤ ρ 8 ∧ ρ 8 ≤ 16) ∨ (17 ≤ ρ 8 ∧ ρ 8 ≤ 255)) with hi | hi | hi | hi
      · exact key (1, 1) (1, 1) (0, 4) (by simp [ofParts, ofP]) hs hk hi
      · exact key (1, 1) (1, 1) (5, 10) (by simp [ofParts, ofP]) hs hk hi
      · exact key (1, 1) (1, 1) (11, 16) (by simp [ofParts, ofP]) hs hk hi
      · exact key (1, 1) (1, 1) (17, 255) (by simp [ofParts, ofP]) hs hk hi
    · exact key (1, 1) (2, 2) (0, 255) (by simp [ofParts, ofP]) hs hk h8
    · exact key (1, 1) (3, 3) (0, 255) (by simp [ofParts, ofP]) hs hk h8
    · exact key (1, 1) (4, 255) (0, 255) (by simp [ofParts, ofP]) hs hk h8
  · rcases (by omega : (0 ≤ ρ 6 ∧ ρ 6 ≤ 0) ∨ (1 ≤ ρ 6 ∧ ρ 6 ≤ 1) ∨ (2 ≤ ρ 6 ∧ ρ 6 ≤ 2) ∨ (3 ≤ ρ 6 ∧ ρ 6 ≤ 3) ∨ (4 ≤ ρ 6 ∧ ρ 6 ≤ 255)) with hk | hk | hk | hk | hk
    · exact key (2, 2) (0, 0) (0, 255) (by simp [ofParts, ofP]) hs hk h8
    · rcases (by omega : (0 ≤ ρ 8 ∧ ρ 8 ≤ 4) ∨ (5 ≤ ρ 8 ∧ ρ 8 ≤ 10) ∨ (11 ≤ ρ 8 ∧ ρ 8 ≤ 16) ∨ (17 ≤ ρ 8 ∧ ρ 8 ≤ 255)) with hi | hi | hi | hi
      · exact key (2, 2) (1, 1) (0, 4) (by simp [ofParts, ofP]) hs hk hi
      · exact key (2, 2) (1, 1) (5, 10) (by simp [ofParts, ofP]) hs hk hi
      · exact key (2, 2) (1, 1) (11, 16) (by simp [ofParts, ofP]) hs hk hi
      · exact key (2, 2) (1, 1) (17, 255) (by simp [ofParts, ofP]) hs hk hi
    · exact key (2, 2) (2, 2) (0, 255) (by simp [ofParts, ofP]) hs hk h8
    · rcases (by omega : (0 ≤ ρ 8 ∧ ρ 8 ≤ 4) ∨ (5 ≤ ρ 8 ∧ ρ 8 ≤ 10) ∨ (11 ≤ ρ 8 ∧ ρ 8 ≤ 16) ∨ (17 ≤ ρ 8 ∧ ρ 8 ≤ 255)) with hi | hi | hi | hi
      · exact key (2, 2) (3, 3) (0, 4) (by simp [ofParts, ofP]) hs hk hi
      · exact key (2, 2) (3, 3) (5, 10) (by simp [ofParts, ofP]) hs hk hi
      · exact key (2, 2) (3, 3) (11, 16) (by simp [ofParts, ofP]) hs hk hi
      · exact key (2, 2) (3, 3) (17, 255) (by simp [ofParts, ofP]) hs hk hi
    · exact key (2, 2) (4, 255) (0, 255) (by simp [ofParts, ofP]) hs hk h8
  · exact key (3, 255) (0, 255) (0, 255) (by simp [ofParts, ofP]) hs h6 h8


end Go.Proofs.YtfliaagohfoipaaGreatDoor
