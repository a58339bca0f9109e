/-
  What is proved here: the runs of plugboardlaw29.RecoveriesMarks come out as they should.
  Conditions: none.
-/
import Derived.Test.YtcipfcbaclfnhaaDoorMarksDefs
namespace Go.Proofs.YtcipfcbaclfnhaaDoor
open Go.Sy Go.RowKit

set_option maxRecDepth 1000000

theorem headA_runs : headA = true := by kernel_rfl
theorem headB_runs : headB = true := by kernel_rfl
theorem endM_runs : endM = true := by kernel_rfl

noncomputable def rowA (k : Nat) : List Pc := (List.range 32).flatMap fun j => [caseA (32 * k + j) 0, caseA (32 * k + j) 1]
theorem rowA_0 : allL roundA (rowA 0) = true := by kernel_rfl
theorem rowA_1 : allL roundA (rowA 1) = true := by kernel_rfl
theorem rowA_2 : allL roundA (rowA 2) = true := by kernel_rfl
theorem rowA_3 : allL roundA (rowA 3) = true := by kernel_rfl
theorem rowA_4 : allL roundA (rowA 4) = true := by kernel_rfl
theorem rowA_5 : allL roundA (rowA 5) = true := by kernel_rfl
theorem rowA_6 : allL roundA (rowA 6) = true := by kernel_rfl
theorem rowA_7 : allL roundA (rowA 7) = true := by kernel_rfl
noncomputable def rowB (k : Nat) : Bool := allL (fun j => allL (roundB (11 * k + j)) (casesB (11 * k + j))) (List.range 11)
theorem rowB_0 : rowB 0 = true := by kernel_rfl
theorem rowB_1 : rowB 1 = true := by kernel_rfl
theorem rowB_2 : rowB 2 = true := by kernel_rfl

theorem roundA_runs : ∀ q ∈ casesA, roundA q = true := by
  intro q hq
  obtain ⟨v, hv, hq⟩ := List.mem_flatMap.1 hq
  have hv := List.mem_range.1 hv
  have hm : q ∈ rowA (v / 32) := List.mem_flatMap.2 ⟨v % 32, List.mem_range.2 (Nat.mod_lt _ (by omega)), by
    rw [show 32 * (v / 32) + v % 32 = v by omega]; exact hq⟩
  have key : ∀ k, k < 8 → allL roundA (rowA k) = true
    | 0, _ => rowA_0
    | 1, _ => rowA_1
    | 2, _ => rowA_2
    | 3, _ => rowA_3
    | 4, _ => rowA_4
    | 5, _ => rowA_5
    | 6, _ => rowA_6
    | 7, _ => rowA_7
    | k + 8, h => absurd h (by omega)
  exact allL_ok (key (v / 32) (by omega)) q hm

theorem roundB_runs : ∀ n, n ≤ 32 → ∀ q ∈ casesB n, roundB n q = true := by
  intro n hn q hq
  have key : ∀ k, k < 3 → rowB k = true
    | 0, _ => rowB_0
    | 1, _ => rowB_1
    | 2, _ => rowB_2
    | k + 3, h => absurd h (by omega)
  have := allL_ok (key (n / 11) (by omega)) (n % 11) (List.mem_range.2 (Nat.mod_lt _ (by omega)))
  rw [show 11 * (n / 11) + n % 11 = n by omega] at this
  exact allL_ok this q hq

end Go.Proofs.YtcipfcbaclfnhaaDoor
