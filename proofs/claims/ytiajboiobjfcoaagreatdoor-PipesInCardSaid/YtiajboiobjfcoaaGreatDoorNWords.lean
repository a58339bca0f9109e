/-
  What is proved here: what the law's helpers return: small, steps, stream, parts, begins.
  Conditions: what the arguments' cells hold.
  What is proved here: rows of numbers, appends of a number and of a slice, what the law's short returns.
  Conditions: what the rows' cells hold.
-/
import Derived.Test.YtiajboiobjfcoaaGreatDoorOPans
import Derived.Test.YtiajboiobjfcoaaGreatDoorORun
import Derived.Test.YtiajboiobjfcoaaGreatDoorOAns
import Derived.Test.YtiajboiobjfcoaaGreatDoorIIn
import Derived.Test.YtiajboiobjfcoaaGreatDoorILine
import Derived.BigQuiet
import Derived.Test.YtiajboiobjfcoaaGreatDoorNFin
import Derived.Test.YtiajboiobjfcoaaGreatDoorIWire
namespace Go.Proofs.YtiajboiobjfcoaaGreatDoor
open Go.Proofs Go.RowKit
attribute [local go_sem] lt2 lt3 lt4 lt5
def sC (jA : Option Addr) (jn jc : Nat) (sA : Option Addr) (sn sc : Nat) (fA : Option Addr) (fn fc : Nat) (aA : Option Addr) (an ac : Nat) (z intr : Bool) : Array Value :=
 #[.slice jA jn jc, .slice sA sn sc, .slice fA fn fc, .slice aA an ac, .bool z, .bool intr]
def stepsOf (ss : List Int) (i : Nat) : Nat := if i < ss.length ∧ 0 < ss[i]?.getD 0 then (ss[i]?.getD 0).toNat % 64 else 800
theorem stepsOf_le (ss : List Int) (i : Nat) : stepsOf ss i ≤ 800 := by
 unfold stepsOf
 split
 ·have := Nat.mod_lt (ss[i]?.getD 0).toNat (show 0 < 64 by omega)
  omega
 ·omega
set_option maxHeartbeats 2000000 in
set_option maxRecDepth 1000000 in
theorem steps_ret (jA : Option Addr) (jn jc : Nat) (sA : Option Addr) (sn sc : Nat) (fA : Option Addr) (fn fc : Nat) (aA : Option Addr) (an ac : Nat) (z intr : Bool) (ss : List Int) (i : Nat) (w : World) (hU : U8 w sA sn sc ss) (hi : i ≤ 1000) :
  Calls Tryz.prog 13 #[.agg (sC jA jn jc sA sn sc fA fn fc aA an ac z intr), .int .i64 (i : Int)] w fun e w' => e = .returned (.int .i64 (stepsOf ss i : Int)) ∧ Below w.heap.size w w' := by
 have hb : ∀ a, Below w.heap.size w (w.alloc a) := fun a => (Below.refl w.heap.size w).alloc (Nat.le_refl _) a
 unfold sC
 by_cases hlt : i < sn
 ·have hsl := hU.1
  obtain ⟨x, hx⟩ : ∃ x, ss[i]? = some x := ⟨_, List.getElem?_eq_getElem (by omega)⟩
  have hxr := hU.2.1 x (List.mem_of_getElem? hx)
  have hnc := hU.2.2.1
  rcases hU.2.2.2 with ⟨_, h0, _⟩ | ⟨a, rfl, hc⟩
  ·omega
  have ck := hc i hlt
  rw [hx] at ck
  simp only [Option.getD_some] at ck
  have ck1 : ∀ o, (w.alloc o).cell? (a.add i) = some (.int .u8 x) := fun o => (World.cell?_alloc_lt _ o _ (World.block_lt_of_cell? _ _ ck)).trans ck
  have q1 : (i : Int) < (sn : Int) := by omega
  have hst : stepsOf ss i = if 0 < x then x.toNat % 64 else 800 := by
   unfold stepsOf
   rw [hx]
   simp only [Option.getD_some]
   by_cases h0 : 0 < x
   ·rw [if_pos h0, if_pos ⟨by omega, h0⟩]
   ·rw [if_neg h0, if_neg (fun h => h0 h.2)]
  rw [hst]
  clear hst hx hU hc ck
  by_cases h0 : 0 < x
  ·rw [if_pos h0]
   have hm : (((x.toNat % 64 : Nat) : Int)) = x % 64 := by omega
   rw [hm]
   have hw : IntKind.i64.wrap (x % 64) = x % 64 := IntWalk.i64_in _ (by omega)
   go_enter Tryz.func13, Tryz.ntmps13
   go_wp2
   go_ret
   exact ⟨by first | rfl | simp [hw], hb _⟩
  ·rw [if_neg h0]
   go_enter Tryz.func13, Tryz.ntmps13
   go_wp2
   go_ret
   exact ⟨rfl, hb _⟩
 ·have q1 : ¬ (i : Int) < (sn : Int) := by omega
  have hst : stepsOf ss i = 800 := by unfold stepsOf; rw [if_neg (fun h => by have := hU.1; omega)]
  rw [hst]
  clear hU
  go_enter Tryz.func13, Tryz.ntmps13
  go_wp2
  go_ret
  exact ⟨rfl, hb _⟩
set_option maxHeartbeats 2000000 in
set_option maxRecDepth 1000000 in
theorem stream_ret (inn intr : Bool) (w : World) :
  Calls Tryz.prog 8 #[.bool inn, .bool intr] w fun e w' => e = .returned (.agg #[.int .u8 5, .int .u8 2, .bool inn, .int .u8 (if intr then 3 else 2), .int .i64 8, .int .i64 (if intr then 8 else 0), .int .u8 1, .int .u8 0, .int .u8 1, .bool false, .bool false]) ∧ Below w.heap.size w w' := by
 have hb : ∀ a b, Below w.heap.size w ((w.alloc a).alloc b) := fun a b => ((Below.refl w.heap.size w).alloc (Nat.le_refl _) a).alloc (by simp) b
 cases intr
 all_goals
  go_enter Tryz.func8, Tryz.ntmps8
  go_wp2_with fail
  exact ret_one _ _ _ _ rfl rfl (alloc2_0 w _ _) Tryz.underlying30 rfl (by kernel_rfl) rfl ⟨rfl, hb _ _⟩
set_option maxHeartbeats 4000000 in
set_option maxRecDepth 1000000 in
theorem begins_ret (A A' : Option Addr) (n c n' c' : Nat) (ys : List Int) (w : World) (hA : U8 w A n c (ys.take n)) (hB : U8 w A' n' c' ys) :
  Calls Tryz.prog 14 #[.slice A n c, .slice A' n' c'] w fun e w' => e = .returned (.bool true) ∧ ∃ q, w' = w.drewN q := by
 have hnn : n ≤ n' := by have := hA.1; have := hB.1; rw [List.length_take] at *; omega
 have q1 : (n : Int) ≤ (n' : Int) := by omega
 have q2 : (n : Int) ≤ (c' : Int) := by have := hB.2.2.1; omega
 have q3 : (0 : Int) ≤ (n : Int) := by omega
 have hT := hB.take hnn
 have d1 : decide ((n : Int) ≤ (n' : Int)) = true := by simp; omega
 have t1 := fun q => hA.text (P := Tryz.prog) (src := 23) (dst := 9) (e := 5) Tryz.underlying23 rfl rfl q
 have t2 := fun q => hT.text (P := Tryz.prog) (src := 23) (dst := 9) (e := 5) Tryz.underlying23 rfl rfl q
 generalize strOfNums (ys.take n) = S at t1 t2
 clear hT
 have hA' : A' = none ∧ n' = 0 ∧ c' = 0 ∨ ∃ a, A' = some a := hB.2.2.2.imp id (fun ⟨a, h, _⟩ => ⟨a, h⟩)
 clear hA hB
 rcases hA' with ⟨rfl, rfl, rfl⟩ | ⟨a, rfl⟩
 ·obtain rfl : n = 0 := by omega
  go_enter Tryz.func14, Tryz.ntmps14
  go_upto_region 1 with fail
  go_quiet (fail)
  go_wp2_with fail
  go_ret
  exact ⟨rfl, _, rfl⟩
 ·go_enter Tryz.func14, Tryz.ntmps14
  go_upto_region 1 with fail
  go_quiet (fail)
  go_wp2_with fail
  go_ret
  exact ⟨rfl, _, rfl⟩
end Go.Proofs.YtiajboiobjfcoaaGreatDoor

namespace Go.Proofs.YtiajboiobjfcoaaGreatDoor
open Go.Proofs Go.RowKit
attribute [local go_sem] lt2 lt3 lt4 lt5
theorem infoSlN : (Tryz.prog.info? 23).map (fun i => (i.zero, i.size, i.bytes)) = some (some (.slice none 0 0), 1, 24) := by kernel_rfl
theorem infoIntN : (Tryz.prog.info? 3).map (fun i => (i.zero, i.size, i.bytes)) = some (some (.int .i64 0), 1, 8) := by kernel_rfl
theorem app1SN {w : World} {B1 g : Nat} {T : Option Addr} {tm tc : Nat} {ys : List Value} (A : Option Addr) (n c : Nat) (hown : w.ownsRow B1 23 1 (.slice T tm tc) tm ys) (hg : w.heap[g]? = some (.cells #[.slice A n c] 23 (0, 0))) (hy : tm ≤ 1000000) (hB : B1 ≤ w.heap.size) :
  ∃ T' tc' w', (Builtin.append_ #[22, 22] 22 #[.slice T tm tc, .slice (some ⟨g, 0, none⟩) 1 1]).run Tryz.prog w = .ok (.slice T' (tm + 1) tc') w' ∧ w'.ownsRow B1 23 1 (.slice T' (tm + 1) tc') (tm + 1) (ys ++ [.slice A n c]) ∧ w.grownBy w' (Value.slice T tm tc).ownBlock ∧ (∀ i, (Value.slice T' (tm + 1) tc').ownBlock = some i → (Value.slice T tm tc).ownBlock = some i ∨ w.heap.size ≤ i) ∧ ∃ g', T' = some ⟨g', 0, none⟩ := by
 obtain ⟨i0, hi, hz0, hz1, hz2⟩ := info_parts infoSlN
 obtain ⟨tv', w', hr, ho, hgr, _, hat⟩ := run_append_own_at (P := Tryz.prog) w B1 22 22 23 i0 (.slice none 0 0) 1 24 Tryz.underlying22 hi hz0 hz1 hz2 rfl (by decide) (.slice T tm tc) _ _ hown ⟨g, 0, none⟩ 1 1 [.slice A n c] rfl (World.news_of_block hg) (fun u hu => by obtain rfl := List.mem_singleton.1 hu; rfl) (by unfold maxLen; omega) (by omega) hB
 have hform := ho.2
 rcases hform with ⟨h, h0⟩ | ⟨g', cap, cur, rfl, hg', _⟩
 ·omega
 ·refine ⟨_, cap, w', hr, ho, hgr, fun i h => ?_, g', rfl⟩
  rcases hat with hat | hat
  ·exact .inl (by rw [← hat]; exact h)
  ·rw [hat] at h; exact .inr (by have := Option.some.inj h; omega)
theorem app1IN {w : World} {B1 g : Nat} {T : Option Addr} {tm tc : Nat} {ys : List Value} (x : Int) (hown : w.ownsRow B1 3 1 (.slice T tm tc) tm ys) (hg : w.heap[g]? = some (.cells #[.int .i64 x] 3 (0, 0))) (hy : tm ≤ 1000000) (hB : B1 ≤ w.heap.size) :
  ∃ T' tc' w', (Builtin.append_ #[70, 70] 70 #[.slice T tm tc, .slice (some ⟨g, 0, none⟩) 1 1]).run Tryz.prog w = .ok (.slice T' (tm + 1) tc') w' ∧ w'.ownsRow B1 3 1 (.slice T' (tm + 1) tc') (tm + 1) (ys ++ [.int .i64 x]) ∧ w.grownBy w' (Value.slice T tm tc).ownBlock ∧ (∀ i, (Value.slice T' (tm + 1) tc').ownBlock = some i → (Value.slice T tm tc).ownBlock = some i ∨ w.heap.size ≤ i) ∧ ∃ g', T' = some ⟨g', 0, none⟩ := by
 obtain ⟨i0, hi, hz0, hz1, hz2⟩ := info_parts infoIntN
 obtain ⟨tv', w', hr, ho, hgr, _, hat⟩ := run_append_own_at (P := Tryz.prog) w B1 70 70 3 i0 (.int .i64 0) 1 8 Tryz.underlying70 hi hz0 hz1 hz2 rfl (by decide) (.slice T tm tc) _ _ hown ⟨g, 0, none⟩ 1 1 [.int .i64 x] rfl (World.news_of_block hg) (fun u hu => by obtain rfl := List.mem_singleton.1 hu; rfl) (by unfold maxLen; omega) (by omega) hB
 have hform := ho.2
 rcases hform with ⟨h, h0⟩ | ⟨g', cap, cur, rfl, hg', _⟩
 ·omega
 ·refine ⟨_, cap, w', hr, ho, hgr, fun i h => ?_, g', rfl⟩
  rcases hat with hat | hat
  ·exact .inl (by rw [← hat]; exact h)
  ·rw [hat] at h; exact .inr (by have := Option.some.inj h; omega)
def I8 (w : World) (g n : Nat) (xs : List Int) : Prop := xs.length = n ∧ ∀ j, j < n → w.cell? ⟨g, j, none⟩ = some (.int .i64 (xs[j]?.getD 0))
theorem I8.at {w : World} {g n : Nat} {xs : List Int} (h : I8 w g n xs) {j : Nat} {x : Int} (hx : xs[j]? = some x) : w.cell? ⟨g, j, none⟩ = some (.int .i64 x) := by
 have := h.2 j (by rw [← h.1]; exact (List.getElem?_eq_some_iff.1 hx).1)
 rw [this, hx]
 rfl
set_option maxHeartbeats 2000000 in
set_option maxRecDepth 100000 in
theorem short_ret (g n c : Nat) (xs : List Int) (v : Int) (k : Nat) (x : Int) (w : World) (h : I8 w g n xs) (hn : n ≤ 1000) (hr : ∀ y ∈ xs, 0 ≤ y ∧ y ≤ 100000) (hk1 : xs[k + 1]? = some v) (hk0 : xs[k]? = some x) (hd : v - x < 8) :
  Calls Tryz.prog 16 #[.slice (some ⟨g, 0, none⟩) n c, .int .i64 v] w fun e w' => e = .returned (.bool true) ∧ ∃ q, w' = w.drewN q := by
 have hkn : k + 1 < n := by rw [← h.1]; exact (List.getElem?_eq_some_iff.1 hk1).1
 have H := Lib.hid h
 have HR := Lib.hid hr
 have HK1 := Lib.hid hk1
 have HK0 := Lib.hid hk0
 clear h hr hk1 hk0
 go_enter Tryz.func16, Tryz.ntmps16
 go_wp2_with fail
 go_loopw [5] (fun i wr => ∃ j q : Nat, i = .int .i64 j ∧ 1 ≤ j ∧ j ≤ k + 1 ∧ wr = w.drewN q) (fun i _ => n - (intOf i).toNat)
 case atStart => exact ⟨1, 0, rfl, by omega, by omega, rfl⟩
 case round =>
  obtain ⟨j, q, rfl, h1, h2, rfl⟩ := hrel
  have q1 : (j : Int) < (n : Int) := by omega
  have q0 : (0 : Int) ≤ (j : Int) := by omega
  have hxl := H.out.1
  obtain ⟨y, hy⟩ : ∃ y, xs[j]? = some y := ⟨_, List.getElem?_eq_getElem (by omega)⟩
  obtain ⟨z, hz⟩ : ∃ z, xs[j - 1]? = some z := ⟨_, List.getElem?_eq_getElem (by omega)⟩
  have cy := H.out.at hy
  have cz := H.out.at hz
  have ry := HR.out y (List.mem_of_getElem? hy)
  have rz := HR.out z (List.mem_of_getElem? hz)
  have hw1 : IntKind.i64.wrap ((j : Int) - 1) = ((j - 1 : Nat) : Int) := by rw [IntWalk.i64_in _ (by omega)]; omega
  have hw2 : IntKind.i64.wrap (y - z) = y - z := IntWalk.i64_in _ (by omega)
  have q2 : ((j - 1 : Nat) : Int) < (n : Int) := by omega
  have q3 : (0 : Int) ≤ ((j - 1 : Nat) : Int) := by omega
  obtain ⟨j1, hj1⟩ : ∃ j1, j - 1 = j1 := ⟨_, rfl⟩
  rw [hj1] at cz hw1 q2 q3
  have HJ1 := Lib.hid hj1
  have HY := Lib.hid hy
  have HZ := Lib.hid hz
  clear hxl hy hz hj1
  by_cases hyv : y = v
  ·subst hyv
   by_cases h8 : y - z < 8
   ·have d1 : decide (y - z < 8) = true := by simp [h8]
    go_upto_region 4 with fail
    go_quiet (fail)
    go_wp2_with fail
    go_ret
    exact ⟨rfl, _, World.drewN_drewN _ _ _⟩
   ·have d1 : decide (y - z < 8) = false := by simp [h8]
    go_upto_region 4 with fail
    go_quiet (fail)
    go_wp2_with fail
    go_round
    case rel =>
     have hne : j ≠ k + 1 := fun e => by
      have e1 := HJ1.out
      have e2 := HZ.out
      rw [show j - 1 = k by omega, HK0.out] at e2
      injection e2 with e2
      omega
     exact ⟨j + 1, _, by go_num, by omega, by omega, rfl⟩
    case measure => simp [intOf]; omega
  ·have d1 : (y == v) = false := by simp [hyv]
   go_upto_region 4 with fail
   go_quiet (fail)
   go_wp2_with fail
   go_round
   case rel =>
    have hne : j ≠ k + 1 := fun e => by
     have e2 := HY.out
     rw [e, HK1.out] at e2
     injection e2 with e2
     exact hyv e2.symm
    exact ⟨j + 1, _, by go_num, by omega, by omega, rfl⟩
   case measure => simp [intOf]; omega
end Go.Proofs.YtiajboiobjfcoaaGreatDoor
