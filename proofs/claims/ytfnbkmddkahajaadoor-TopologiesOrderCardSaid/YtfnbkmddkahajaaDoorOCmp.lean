/-
  What is proved here: what cmp.Compare, slices.Compare, topologies.Compare, and the law's own order return.
  Conditions: what the slices' cells hold.
-/
import Derived.Test.YtfnbkmddkahajaaDoorOWords
import Derived.WalkKit
import Derived.RegionTactic
import Derived.BigRegion
import Derived.Deep.LoopGhost
import Derived.Deep.QuietTactic
import Derived.BigQuiet
namespace Go.Proofs.YtfnbkmddkahajaaDoor
open Go.Proofs Go.RowKit

/-- of two numbers -/
def cmpI (x y : Int) : Int := if x < y then -1 else if y < x then 1 else 0

set_option maxHeartbeats 1000000 in
/-- cmp.Compare at uint8; a uint8 is no NaN -/
theorem cmp_u8 (x y : Int) (w : World) : Calls Tryd.prog 17 #[.int .u8 x, .int .u8 y] w fun e w' => e = .returned (.int .i64 (cmpI x y)) ∧ w' = w := by
  go_enter Tryd.func17, Tryd.ntmps17
  go_wp2
  all_goals (go_ret; refine ⟨?_, rfl⟩; unfold cmpI; (repeat' split) <;> first | rfl | (exfalso; omega))

theorem cmpL_step {xs ys : List Int} {k : Nat} {x y : Int} (hx : xs[k]? = some x) (hy : ys[k]? = some y) :
    cmpL (xs.drop k) (ys.drop k) = if cmpI x y = 0 then cmpL (xs.drop (k + 1)) (ys.drop (k + 1)) else cmpI x y := by
  rw [drop_cons hx, drop_cons hy, cmpL]
  unfold cmpI
  (repeat' split) <;> first | rfl | (exfalso; omega)

set_option maxHeartbeats 2000000 in
set_option maxRecDepth 100000 in
theorem slices_cmp (A B : Option Addr) (n c m d : Nat) (xs ys : List Int) (w : World) (hx : U8 w A n c xs) (hy : U8 w B m d ys) (hn : n ≤ 9223372036854775807) (hm : m ≤ 9223372036854775807) :
    Calls Tryd.prog 11 #[.slice A n c, .slice B m d] w fun e w' => e = .returned (.int .i64 (cmpL xs ys)) ∧ w' = w := by
  go_enter Tryd.func11, Tryd.ntmps11
  go_wp2_with fail
  go_loop [11] (fun i => ∃ k : Nat, k ≤ n ∧ k ≤ m ∧ i = .int .i64 k ∧ cmpL xs ys = cmpL (xs.drop k) (ys.drop k)) (fun i => n - (intOf i).toNat)
  case atStart => exact ⟨0, by omega, by omega, rfl, rfl⟩
  case round =>
    obtain ⟨k, h1, h2, rfl, he⟩ := hrel
    have HE := Lib.hid he
    clear he
    by_cases hk : k < n
    · obtain ⟨a, x, rfl, ex, x0, x1, hc1⟩ := hx.cell hk
      by_cases hk2 : k < m
      · obtain ⟨b, y, rfl, ey, y0, y1, hc2⟩ := hy.cell hk2
        have HS := Lib.hid (cmpL_step ex ey)
        clear ex ey
        by_cases hz : cmpI x y = 0
        · have hzb : (cmpI x y == 0) = true := by simpa using hz
          have HS2 : Hid (cmpL xs ys = cmpL (xs.drop (k + 1)) (ys.drop (k + 1))) := Lib.hid (by rw [HE.out, HS.out, if_pos hz])
          clear HS HE hz
          go_wp2_with (go_at_call 17; refine (cmp_u8 _ _ _).mono ?_; rintro e w' ⟨rfl, rfl⟩)
          go_round
          case rel => exact ⟨k + 1, by omega, by omega, by go_num, HS2.out⟩
          case measure => simp [intOf]; omega
        · have hzb : (cmpI x y == 0) = false := by simpa using hz
          have HS2 : Hid (cmpL xs ys = cmpI x y) := Lib.hid (by rw [HE.out, HS.out, if_neg hz])
          clear HS HE hz
          go_wp2_with (go_at_call 17; refine (cmp_u8 _ _ _).mono ?_; rintro e w' ⟨rfl, rfl⟩)
          go_ret
          exact ⟨by rw [HS2.out]; rfl, rfl⟩
      · have HS2 : Hid (cmpL xs ys = 1) := Lib.hid (by rw [HE.out, drop_cons ex, drop_nil (l := ys) (by have := hy.1; omega)]; rfl)
        clear HE ex
        go_wp2_with fail
        go_ret
        exact ⟨by rw [HS2.out]; rfl, rfl⟩
    · by_cases hk2 : n < m
      · have HS2 : Hid (cmpL xs ys = -1) := Lib.hid (by
          obtain ⟨b, y, rfl, ey, _⟩ := hy.cell (j := k) (by omega)
          rw [HE.out, drop_cons ey, drop_nil (l := xs) (by have := hx.1; omega)]; rfl)
        clear HE
        go_wp2_with fail
        go_ret
        exact ⟨by rw [HS2.out]; rfl, rfl⟩
      · have HS2 : Hid (cmpL xs ys = 0) := Lib.hid (by
          rw [HE.out, drop_nil (l := ys) (by have := hy.1; omega), drop_nil (l := xs) (by have := hx.1; omega)]; rfl)
        clear HE
        go_wp2_with fail
        go_ret
        exact ⟨by rw [HS2.out]; rfl, rfl⟩

set_option maxHeartbeats 1000000 in
theorem top_cmp (A B : Option Addr) (n c m d : Nat) (xs ys : List Int) (w : World) (hx : U8 w A n c xs) (hy : U8 w B m d ys) (hn : n ≤ 9223372036854775807) (hm : m ≤ 9223372036854775807) :
    Calls Tryd.prog 5 #[.slice A n c, .slice B m d] w fun e w' => e = .returned (.int .i64 (cmpL xs ys)) ∧ w' = w := by
  go_enter Tryd.func5, Tryd.ntmps5
  go_wp2_with (go_at_call 11; refine (slices_cmp A B n c m d xs ys w hx hy hn hm).mono ?_; rintro e w' ⟨rfl, rfl⟩)
  go_ret
  exact ⟨rfl, rfl⟩

set_option maxHeartbeats 2000000 in
set_option maxRecDepth 100000 in
theorem order_u8 (A B : Option Addr) (n c m d : Nat) (xs ys : List Int) (w : World) (hx : U8 w A n c xs) (hy : U8 w B m d ys) (hn : n ≤ 9223372036854775807) (hm : m ≤ 9223372036854775807) :
    Calls Tryd.prog 6 #[.slice A n c, .slice B m d] w fun e w' => e = .returned (.int .i64 (cmpL xs ys)) ∧ ∃ q, w' = w.drewN q := by
  go_enter Tryd.func6, Tryd.ntmps6
  go_wp2_with fail
  go_loopg [5] n (fun g i wr => ∃ k q : Nat, k ≤ n ∧ k ≤ m ∧ n - k ≤ g ∧ i = .int .i64 k ∧ wr = w.drewN q ∧ cmpL xs ys = cmpL (xs.drop k) (ys.drop k))
  case atStart => exact ⟨0, 0, by omega, by omega, by omega, rfl, rfl, rfl⟩
  case round =>
    obtain ⟨k, q, h1, h2, h3, rfl, rfl, he⟩ := hrel
    have HE := Lib.hid he
    clear he
    by_cases hk : k < n ∧ k < m
    · obtain ⟨hk1, hk2⟩ := hk
      obtain ⟨a, x, rfl, ex, x0, x1, hc1⟩ := hx.cell hk1
      obtain ⟨b, y, rfl, ey, y0, y1, hc2⟩ := hy.cell hk2
      have HS := Lib.hid (cmpL_step ex ey)
      clear ex ey
      by_cases hlt : x < y
      · have HS2 : Hid (cmpL xs ys = -1) := Lib.hid (by rw [HE.out, HS.out]; unfold cmpI; rw [if_pos hlt]; rfl)
        clear HE HS
        go_wp2_with fail
        go_region
        go_wp2
        go_ret
        exact ⟨by rw [HS2.out]; rfl, _, rfl⟩
      · by_cases hgt : y < x
        · have HS2 : Hid (cmpL xs ys = 1) := Lib.hid (by rw [HE.out, HS.out]; unfold cmpI; rw [if_neg hlt, if_pos hgt]; rfl)
          clear HE HS
          go_wp2_with fail
          go_region
          go_wp2_with fail
          go_region
          go_wp2
          go_ret
          exact ⟨by rw [HS2.out]; rfl, _, rfl⟩
        · have HS2 : Hid (cmpL xs ys = cmpL (xs.drop (k + 1)) (ys.drop (k + 1))) := Lib.hid (by rw [HE.out, HS.out]; unfold cmpI; rw [if_neg hlt, if_neg hgt]; rfl)
          clear HE HS
          go_wp2_with fail
          go_region
          go_wp2_with fail
          go_region
          go_wp2
          go_roundg (n - (k + 1))
          case measure => omega
          case rel => exact ⟨k + 1, q + 2, by omega, by omega, by omega, by go_num, rfl, HS2.out⟩
    · have HS2 : Hid (cmpL xs ys = if n < m then -1 else if m < n then 1 else 0) := Lib.hid (by
        rw [HE.out]
        have hlx := hx.1
        have hly := hy.1
        by_cases e1 : n < m
        · obtain ⟨b, y, rfl, ey, _⟩ := hy.cell (j := k) (by omega)
          rw [if_pos e1, drop_nil (l := xs) (by omega), drop_cons ey]; rfl
        · by_cases e2 : m < n
          · obtain ⟨a, x, rfl, ex, _⟩ := hx.cell (j := k) (by omega)
            rw [if_neg e1, if_pos e2, drop_nil (l := ys) (by omega), drop_cons ex]; rfl
          · rw [if_neg e1, if_neg e2, drop_nil (l := ys) (by omega), drop_nil (l := xs) (by omega)]; rfl)
      clear HE
      by_cases e1 : n < m
      · have HS3 : Hid (cmpL xs ys = -1) := Lib.hid (by rw [HS2.out, if_pos e1])
        clear HS2
        by_cases hk1 : k < n
        · exfalso; omega
        · go_wp2_with fail
          go_ret
          exact ⟨by rw [HS3.out]; rfl, _, rfl⟩
      · by_cases e2 : m < n
        · have HS3 : Hid (cmpL xs ys = 1) := Lib.hid (by rw [HS2.out, if_neg e1, if_pos e2])
          clear HS2
          have hk1 : k < n := by omega
          have hk2 : ¬ k < m := by omega
          go_wp2_with fail
          go_ret
          exact ⟨by rw [HS3.out]; rfl, _, rfl⟩
        · have HS3 : Hid (cmpL xs ys = 0) := Lib.hid (by rw [HS2.out, if_neg e1, if_neg e2])
          clear HS2
          have hk1 : ¬ k < n := by omega
          go_wp2_with fail
          go_ret
          exact ⟨by rw [HS3.out]; rfl, _, rfl⟩
end Go.Proofs.YtfnbkmddkahajaaDoor
