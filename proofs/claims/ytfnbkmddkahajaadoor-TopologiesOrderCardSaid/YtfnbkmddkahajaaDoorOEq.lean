/-
  What is proved here: what slices.Equal, topologies.Under, slices.Clone, slices.Clip and topologies.Up return.
  Conditions: what the slices' cells hold.
-/
import Derived.Test.YtfnbkmddkahajaaDoorOCmp
import Derived.Laws.AppendOwnNone
import Derived.Deep.RegionHeld3
import Derived.WalkSpells
namespace Go.Proofs.YtfnbkmddkahajaaDoor
open Go.Proofs Go.RowKit

theorem drop_eq_step {xs ys : List Int} {k : Nat} {x : Int} (hx : xs[k]? = some x) (hy : ys[k]? = some x) (h : xs.take k = ys.take k) : xs.take (k + 1) = ys.take (k + 1) := by
  rw [List.take_add_one, List.take_add_one, hx, hy, h]

set_option maxHeartbeats 2000000 in
set_option maxRecDepth 100000 in
theorem eq_u8 (A B : Option Addr) (n c m d : Nat) (xs ys : List Int) (w : World) (hx : U8 w A n c xs) (hy : U8 w B m d ys) (hn : n ≤ 9223372036854775807) (hm : m ≤ 9223372036854775807) :
    Calls Tryd.prog 12 #[.slice A n c, .slice B m d] w fun e w' => e = .returned (.bool (decide (xs = ys))) ∧ ∃ q, w' = w.drewN q := by
  have hlx := hx.1
  have hly := hy.1
  by_cases hnm : n = m
  · go_enter Tryd.func12, Tryd.ntmps12
    have HL := Lib.hid hnm
    have hnmb : ((n : Int) != (m : Int)) = false := by subst hnm; simp
    clear hnm hlx hly
    go_wp2_with fail
    go_loopg [13] n (fun g i wr => ∃ k q : Nat, k ≤ n ∧ n - k ≤ g ∧ i = .int .i64 k ∧ wr = w.drewN q ∧ Hid (xs.take k = ys.take k))
    case atStart => exact ⟨0, 0, by omega, by omega, rfl, rfl, Lib.hid (by simp)⟩
    case round =>
      obtain ⟨k, q, h1, h3, rfl, rfl, HE⟩ := hrel
      by_cases hk : k < n
      · have hk2 : k < m := by rw [← HL.out]; exact hk
        obtain ⟨a, x, rfl, ex, x0, x1, hc1⟩ := hx.cell hk
        obtain ⟨b, y, rfl, ey, y0, y1, hc2⟩ := hy.cell hk2
        by_cases hxy : x = y
        · subst hxy
          have HS := Lib.hid (drop_eq_step ex ey HE.out)
          clear ex ey HE
          go_wp2_with fail
          go_region
          go_wp2
          go_roundg (n - (k + 1))
          case measure => omega
          case rel => exact ⟨k + 1, q + 1, by omega, by omega, by go_num, rfl, HS⟩
        · have HS : Hid (decide (xs = ys) = false) := Lib.hid (by
            refine decide_eq_false fun e => hxy ?_
            rw [e, ey] at ex
            injection ex with ex
            exact ex.symm)
          have hb : (x != y) = true := by simpa using hxy
          clear ex ey HE hxy
          go_wp2_with fail
          go_region
          go_wp2
          go_ret
          exact ⟨by rw [HS.out]; rfl, _, rfl⟩
      · have HS : Hid (decide (xs = ys) = true) := Lib.hid (by
          refine decide_eq_true ?_
          have e := HE.out
          have h1 := hx.1
          have h2 := hy.1
          have h3 := HL.out
          rwa [List.take_of_length_le (by omega), List.take_of_length_le (by omega)] at e)
        clear HE
        go_wp2_with fail
        go_ret
        exact ⟨by rw [HS.out]; rfl, _, rfl⟩
  · have HS : Hid (decide (xs = ys) = false) := Lib.hid (decide_eq_false fun e => hnm (by rw [← hlx, ← hly, e]))
    have hnmb : ((n : Int) != (m : Int)) = true := by simp; omega
    clear hnm hlx hly
    go_enter Tryd.func12, Tryd.ntmps12
    go_wp2_with fail
    go_ret
    exact ⟨by rw [HS.out]; rfl, 0, rfl⟩

set_option maxHeartbeats 2000000 in
theorem under_yes (A B : Option Addr) (n c m d : Nat) (xs ys : List Int) (w : World) (hx : U8 w A n c xs) (hy : U8 w B m d ys) (hn : n ≤ 9223372036854775807) (hlt : m < n) :
    Calls Tryd.prog 7 #[.slice A n c, .slice B m d] w fun e w' => e = .returned (.bool (decide (xs.take m = ys))) ∧ ∃ q, w' = w.drewN q := by
  have hxt := hx.take (k := m) (by omega)
  have hcap : m ≤ c := by have := hx.2.2.1; omega
  obtain ⟨a, x, rfl, _⟩ := hx.cell (j := 0) (by omega)
  go_enter Tryd.func7, Tryd.ntmps7
  go_wp2_with (go_at_call 12; refine (eq_u8 _ B m c m d _ ys _ hxt hy (by omega) (by omega)).mono ?_; rintro e w' ⟨rfl, q, rfl⟩)
  go_ret
  exact ⟨rfl, q, rfl⟩

set_option maxHeartbeats 2000000 in
theorem under_no (A B : Option Addr) (n c m d : Nat) (w : World) (hlt : ¬ m < n) :
    Calls Tryd.prog 7 #[.slice A n c, .slice B m d] w fun e w' => e = .returned (.bool false) ∧ w' = w := by
  go_enter Tryd.func7, Tryd.ntmps7
  go_wp2_with fail
  go_ret
  exact ⟨rfl, rfl⟩

/-- topologies.Under -/
theorem under_u8 (A B : Option Addr) (n c m d : Nat) (xs ys : List Int) (w : World) (hx : U8 w A n c xs) (hy : U8 w B m d ys) (hn : n ≤ 9223372036854775807) :
    Calls Tryd.prog 7 #[.slice A n c, .slice B m d] w fun e w' => e = .returned (.bool (undB xs ys)) ∧ ∃ q, w' = w.drewN q := by
  have hlx := hx.1
  have hly := hy.1
  by_cases hlt : m < n
  · have e : undB xs ys = decide (xs.take m = ys) := by
      unfold undB
      rw [hlx, hly, decide_eq_true hlt, Bool.true_and]
    rw [e]
    exact under_yes A B n c m d xs ys w hx hy hn hlt
  · have e : undB xs ys = false := by
      unfold undB
      rw [hlx, hly, decide_eq_false hlt, Bool.false_and]
    rw [e]
    exact (under_no A B n c m d w hlt).mono fun _ _ ⟨h1, h2⟩ => ⟨h1, 0, h2⟩
end Go.Proofs.YtfnbkmddkahajaaDoor
