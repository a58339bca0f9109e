/-
  What is defined here: the runs of plugboardlaw23.PipesOf, by parts of the speed, the kind and the interval.
  Conditions: none (definitions only).
-/
import Derived.Test.YtfliaagohfoipaaGreatDoorPBase
namespace Go.Proofs.YtfliaagohfoipaaGreatDoor
open Go.Sy Go.RowKit

set_option maxRecDepth 1000000

def ofPa : List Pa := [.agg [.int .u8, .int .u8, .int .u8, .int .u8], .agg [.int .u8, .bool, .int .u8, .int .u16, .int .u8]]
/-- ranges of some variables -/
def rngs (l : List (Nat × Int × Int)) (r : List (Int × Int)) : List (Int × Int) := l.foldr (fun x r => setRng r x.1 fun _ => x.2) r
noncomputable def ofQ (l : List (Nat × Int × Int)) : Pc := ⟨[], rngs l (paR ofPa)⟩
noncomputable def ofRun (l : List (Nat × Int × Int)) : Bool := allTrue (evFn Tryz.prog kwP 10 20 5 (paV ofPa 0 0) (mem1 pG ofPa) (ofQ l))
/-- the parts: speed (3), kind (6), interval (8) -/
def ofP (s k i : Int × Int) : List (Nat × Int × Int) := [(3, s), (6, k), (8, i)]

theorem setRng_get : ∀ {rng : List (Int × Int)} {i j : Nat} {f : Int × Int → Int × Int}, (setRng rng i f)[j]? = (rng[j]?).map fun r => if i = j then f r else r
  | [], i, j, f => by simp [setRng]
  | x :: l, 0, 0, f => by simp [setRng]
  | x :: l, 0, j + 1, f => by simp [setRng]
  | x :: l, i + 1, 0, f => by simp [setRng]
  | x :: l, i + 1, j + 1, f => by
    have := setRng_get (rng := l) (i := i) (j := j) (f := f)
    simpa [setRng] using this

theorem setRng_R {ρ : Nat → Int} {rng : List (Int × Int)} {k : Nat} {a b : Int} (hr : ∀ i lo hi, rng[i]? = some (lo, hi) → lo ≤ ρ i ∧ ρ i ≤ hi) (h : a ≤ ρ k ∧ ρ k ≤ b) :
    ∀ i lo hi, (setRng rng k fun _ => (a, b))[i]? = some (lo, hi) → lo ≤ ρ i ∧ ρ i ≤ hi := by
  intro i lo hi hi'
  rw [setRng_get] at hi'
  cases hg : rng[i]? with
  | none => rw [hg] at hi'; simp at hi'
  | some r =>
    rw [hg] at hi'
    by_cases e : k = i
    · subst e; simp at hi'; omega
    · simp [e] at hi'
      exact hr i lo hi (by rw [hg, hi'])

theorem rngs_R {ρ : Nat → Int} {r : List (Int × Int)} (hr : ∀ i lo hi, r[i]? = some (lo, hi) → lo ≤ ρ i ∧ ρ i ≤ hi) : ∀ {l : List (Nat × Int × Int)}, (∀ x ∈ l, x.2.1 ≤ ρ x.1 ∧ ρ x.1 ≤ x.2.2) →
    ∀ i lo hi, (rngs l r)[i]? = some (lo, hi) → lo ≤ ρ i ∧ ρ i ≤ hi
  | [], _ => hr
  | x :: _, h => setRng_R (rngs_R hr fun y hy => h y (.tail _ hy)) (h x (.head _))

end Go.Proofs.YtfliaagohfoipaaGreatDoor
