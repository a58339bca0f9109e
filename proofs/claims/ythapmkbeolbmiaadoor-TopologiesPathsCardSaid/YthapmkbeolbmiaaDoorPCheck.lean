/-
  What is proved here: what topologies.Check returns.
  Conditions: what the slice's cells hold.
-/
import Derived.Test.YthapmkbeolbmiaaDoorPSplit
import Derived.Test.YthapmkbeolbmiaaDoorOWords
import Derived.RegionTactic
import Derived.Deep.QuietTactic
import Derived.BigQuiet
namespace Go.Proofs.YthapmkbeolbmiaaDoor
open Go.Proofs Go.RowKit

/-- whether a number is no port -/
def badB (x : Int) : Bool := decide (x < 1) || decide (7 < x)

set_option maxHeartbeats 1000000 in
theorem chkfn_any (x : Int) (w : World) : Calls Tryd.prog 22 #[.int .u8 x] w fun e w' => e = .returned (.bool (badB x)) ∧ w' = w := by
  go_enter Tryd.func22, Tryd.ntmps22
  by_cases h1 : x < 1
  · have E : Hid (badB x = true) := Lib.hid (by simp [badB, h1])
    have d : decide (x < 1) = true := by simpa using h1
    go_wp2
    go_ret
    exact ⟨by rw [E.out]; rfl, rfl⟩
  · have d : decide (x < 1) = false := by simpa using h1
    have E : Hid (badB x = decide (7 < x)) := Lib.hid (by simp [badB, d])
    go_wp2
    go_ret
    exact ⟨by rw [E.out]; rfl, rfl⟩

/-- what IndexFunc is to return -/
def FoundIs (b : Bool) (w : World) (e : Ending) (w' : World) : Prop := ∃ i : Int, e = .returned (.int .i64 i) ∧ decide (0 ≤ i) = b ∧ w' = w

theorem any_hit {xs : List Int} {k : Nat} {x : Int} (hx : xs[k]? = some x) (h : badB x = true) : xs.any badB = true := by
  obtain ⟨hk, rfl⟩ := List.getElem?_eq_some_iff.1 hx
  exact List.any_eq_true.2 ⟨_, List.getElem_mem hk, h⟩
theorem any_miss {xs : List Int} (h : ∀ (j : Nat) (x : Int), xs[j]? = some x → badB x = false) : xs.any badB = false := by
  rw [List.any_eq_false]
  intro x hx
  obtain ⟨j, hj⟩ := List.getElem?_of_mem hx
  simp [h j x hj]

set_option maxHeartbeats 1000000 in
set_option maxRecDepth 100000 in
theorem ixf_any (A : Option Addr) (n c : Nat) (xs : List Int) (w : World) (hx : U8 w A n c xs) (hn : n ≤ 9223372036854775807) :
    Calls Tryd.prog 34 #[.slice A n c, .func (Fn.func 22) #[] #[]] w (FoundIs (xs.any badB) w) := by
  go_enter Tryd.func34, Tryd.ntmps34
  go_wp2_with fail
  go_loop [8] (fun i => ∃ k : Nat, k ≤ n ∧ i = .int .i64 k ∧ Hid (∀ (j : Nat) (x : Int), j < k → xs[j]? = some x → badB x = false)) (fun i => n - (intOf i).toNat)
  case atStart => exact ⟨0, by omega, rfl, Lib.hid fun j x h => by omega⟩
  case round =>
    obtain ⟨k, h1, rfl, HE⟩ := hrel
    by_cases hk : k < n
    · obtain ⟨a, x, rfl, ex, x0, x1, hc1⟩ := hx.cell hk
      have EX := Lib.hid ex
      clear ex
      have hfn := chkfn_any x w
      by_cases hb : badB x = true
      · rw [hb] at hfn
        have HB := Lib.hid hb
        clear hb
        go_wp2_with fail
        refine hfn.mono ?_
        rintro e w' ⟨rfl, rfl⟩
        go_wp2_with fail
        go_ret
        exact ⟨k, rfl, by rw [any_hit EX.out HB.out]; simp, rfl⟩
      · have hb : badB x = false := by simpa using hb
        rw [hb] at hfn
        have HB := Lib.hid hb
        clear hb
        go_wp2_with fail
        refine hfn.mono ?_
        rintro e w' ⟨rfl, rfl⟩
        go_wp2_with fail
        go_round
        case rel =>
          refine ⟨k + 1, by omega, by go_num, Lib.hid fun j y hj hy => ?_⟩
          by_cases e : j = k
          · subst e
            have := EX.out
            rw [this] at hy
            injection hy with hy
            subst hy
            exact HB.out
          · exact HE.out j y (by omega) hy
        case measure => simp [intOf]; omega
    · have HF : Hid (xs.any badB = false) := Lib.hid (any_miss fun j x h => HE.out j x (by have := (List.getElem?_eq_some_iff.1 h).1; have := hx.1; omega) h)
      clear HE
      go_wp2_with fail
      go_ret
      exact ⟨-1, rfl, by rw [HF.out]; rfl, rfl⟩

set_option maxHeartbeats 1000000 in
theorem cf_any (A : Option Addr) (n c : Nat) (xs : List Int) (w : World) (hx : U8 w A n c xs) (hn : n ≤ 9223372036854775807) :
    Calls Tryd.prog 21 #[.slice A n c, .func (Fn.func 22) #[] #[]] w fun e w' => e = .returned (.bool (xs.any badB)) ∧ w' = w := by
  have hf := ixf_any A n c xs w hx hn
  generalize xs.any badB = b at hf
  go_enter Tryd.func21, Tryd.ntmps21
  go_wp2_with fail
  refine hf.mono ?_
  rintro e w' ⟨i, rfl, hb, rfl⟩
  have HB := Lib.hid hb
  clear hb hf
  go_wp2_with fail
  go_ret
  exact ⟨by rw [← HB.out]; rfl, rfl⟩

theorem valid_of (xs : List Int) (h1 : 1 ≤ xs.length) (h2 : xs.length ≤ 6) : validB xs = !xs.any badB := by
  unfold validB
  rw [decide_eq_true h1, decide_eq_true h2, Bool.true_and, Bool.true_and, List.not_any_eq_all_not]
  congr 1
  funext x
  show (decide (1 ≤ x) && decide (x ≤ 7)) = !(decide (x < 1) || decide (7 < x))
  by_cases h : x < 1 <;> by_cases h' : 7 < x <;> simp [h, h'] <;> omega

set_option maxHeartbeats 1000000 in
theorem check_any (A : Option Addr) (n c : Nat) (xs : List Int) (w : World) (hx : U8 w A n c xs) (hn : n ≤ 9223372036854775807) :
    Calls Tryd.prog 7 #[.slice A n c] w fun e w' => e = .returned (.int .i64 (if validB xs = true then 0 else 1)) ∧ w' = w := by
  have hlx := hx.1
  by_cases h1 : 1 ≤ n ∧ n ≤ 6
  · have hv := valid_of xs (by omega) (by omega)
    rw [hv]
    have hc := cf_any A n c xs w hx hn
    generalize xs.any badB = b at hc
    obtain ⟨h1, h2⟩ := h1
    have d1 : decide ((n : Int) < 1) = false := by simp; omega
    have d2 : decide ((6 : Int) < (n : Int)) = false := by simp; omega
    clear hv hlx
    cases b
    all_goals
      go_enter Tryd.func7, Tryd.ntmps7
      go_wp2_with fail
      refine hc.mono ?_
      rintro e w' ⟨rfl, rfl⟩
      go_wp2_with fail
      go_ret
      exact ⟨rfl, rfl⟩
  · have hv : validB xs = false := by
      unfold validB
      rw [hlx]
      simp only [Bool.and_eq_false_iff, decide_eq_false_iff_not]
      omega
    rw [hv]
    clear hv hlx
    by_cases h2 : n < 1
    · obtain rfl : n = 0 := by omega
      go_enter Tryd.func7, Tryd.ntmps7
      go_wp2_with fail
      go_ret
      exact ⟨rfl, rfl⟩
    · have d1 : decide ((n : Int) < 1) = false := by simp; omega
      have d2 : decide ((6 : Int) < (n : Int)) = true := by simp; omega
      go_enter Tryd.func7, Tryd.ntmps7
      go_wp2_with fail
      go_ret
      exact ⟨rfl, rfl⟩
end Go.Proofs.YthapmkbeolbmiaaDoor
