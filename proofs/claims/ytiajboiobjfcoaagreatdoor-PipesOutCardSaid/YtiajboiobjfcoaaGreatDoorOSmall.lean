/-
  What is proved here: what the law's helpers return: small, steps, stream, parts, begins.
  Conditions: what the arguments' cells hold.
-/
import Derived.Test.YtiajboiobjfcoaaGreatDoorOStr
import Derived.BigQuiet
namespace Go.Proofs.YtiajboiobjfcoaaGreatDoor
open Go.Proofs Go.RowKit
attribute [local go_sem] lt2 lt3 lt4 lt5
def sC (jA : Option Addr) (jn jc : Nat) (sA : Option Addr) (sn sc : Nat) (fA : Option Addr) (fn fc : Nat) (aA : Option Addr) (an ac : Nat) (z intr : Bool) : Array Value :=
 #[.slice jA jn jc, .slice sA sn sc, .slice fA fn fc, .slice aA an ac, .bool z, .bool intr]
def stepsOf (ss : List Int) (i : Nat) : Nat := if i < ss.length ∧ 0 < ss[i]?.getD 0 then (ss[i]?.getD 0).toNat % 64 else 800
theorem stepsOf_le (ss : List Int) (i : Nat) : stepsOf ss i ≤ 800 := by
 unfold stepsOf
 split
 ·have := Nat.mod_lt (ss[i]?.getD 0).toNat (show 0 < 64 by omega)
  omega
 ·omega
set_option maxHeartbeats 2000000 in
set_option maxRecDepth 1000000 in
theorem steps_ret (jA : Option Addr) (jn jc : Nat) (sA : Option Addr) (sn sc : Nat) (fA : Option Addr) (fn fc : Nat) (aA : Option Addr) (an ac : Nat) (z intr : Bool) (ss : List Int) (i : Nat) (w : World) (hU : U8 w sA sn sc ss) (hi : i ≤ 1000) :
  Calls Tryz.prog 13 #[.agg (sC jA jn jc sA sn sc fA fn fc aA an ac z intr), .int .i64 (i : Int)] w fun e w' => e = .returned (.int .i64 (stepsOf ss i : Int)) ∧ Below w.heap.size w w' := by
 have hb : ∀ a, Below w.heap.size w (w.alloc a) := fun a => (Below.refl w.heap.size w).alloc (Nat.le_refl _) a
 unfold sC
 by_cases hlt : i < sn
 ·have hsl := hU.1
  obtain ⟨x, hx⟩ : ∃ x, ss[i]? = some x := ⟨_, List.getElem?_eq_getElem (by omega)⟩
  have hxr := hU.2.1 x (List.mem_of_getElem? hx)
  have hnc := hU.2.2.1
  rcases hU.2.2.2 with ⟨_, h0, _⟩ | ⟨a, rfl, hc⟩
  ·omega
  have ck := hc i hlt
  rw [hx] at ck
  simp only [Option.getD_some] at ck
  have ck1 : ∀ o, (w.alloc o).cell? (a.add i) = some (.int .u8 x) := fun o => (World.cell?_alloc_lt _ o _ (World.block_lt_of_cell? _ _ ck)).trans ck
  have q1 : (i : Int) < (sn : Int) := by omega
  have hst : stepsOf ss i = if 0 < x then x.toNat % 64 else 800 := by
   unfold stepsOf
   rw [hx]
   simp only [Option.getD_some]
   by_cases h0 : 0 < x
   ·rw [if_pos h0, if_pos ⟨by omega, h0⟩]
   ·rw [if_neg h0, if_neg (fun h => h0 h.2)]
  rw [hst]
  clear hst hx hU hc ck
  by_cases h0 : 0 < x
  ·rw [if_pos h0]
   have hm : (((x.toNat % 64 : Nat) : Int)) = x % 64 := by omega
   rw [hm]
   have hw : IntKind.i64.wrap (x % 64) = x % 64 := IntWalk.i64_in _ (by omega)
   go_enter Tryz.func13, Tryz.ntmps13
   go_wp2
   go_ret
   exact ⟨by first | rfl | simp [hw], hb _⟩
  ·rw [if_neg h0]
   go_enter Tryz.func13, Tryz.ntmps13
   go_wp2
   go_ret
   exact ⟨rfl, hb _⟩
 ·have q1 : ¬ (i : Int) < (sn : Int) := by omega
  have hst : stepsOf ss i = 800 := by unfold stepsOf; rw [if_neg (fun h => by have := hU.1; omega)]
  rw [hst]
  clear hU
  go_enter Tryz.func13, Tryz.ntmps13
  go_wp2
  go_ret
  exact ⟨rfl, hb _⟩
set_option maxHeartbeats 2000000 in
set_option maxRecDepth 1000000 in
theorem stream_ret (inn intr : Bool) (w : World) :
  Calls Tryz.prog 8 #[.bool inn, .bool intr] w fun e w' => e = .returned (.agg #[.int .u8 5, .int .u8 2, .bool inn, .int .u8 (if intr then 3 else 2), .int .i64 8, .int .i64 (if intr then 8 else 0), .int .u8 1, .int .u8 0, .int .u8 1, .bool false, .bool false]) ∧ Below w.heap.size w w' := by
 have hb : ∀ a b, Below w.heap.size w ((w.alloc a).alloc b) := fun a b => ((Below.refl w.heap.size w).alloc (Nat.le_refl _) a).alloc (by simp) b
 cases intr
 all_goals
  go_enter Tryz.func8, Tryz.ntmps8
  go_wp2_with fail
  exact ret_one _ _ _ _ rfl rfl (alloc2_0 w _ _) Tryz.underlying30 rfl (by kernel_rfl) rfl ⟨rfl, hb _ _⟩
set_option maxHeartbeats 2000000 in
theorem parts_ret (n : Nat) (z : Bool) (hn : n ≤ 1000) (w : World) :
  Calls Tryz.prog 15 #[.int .i64 (n : Int), .bool z] w fun e w' => e = .returned (.int .i64 ((if z = true ∧ n % 8 = 0 then n / 8 + 1 else (n + 7) / 8 : Nat) : Int)) ∧ w' = w := by
 have hw7 : IntKind.i64.wrap ((n : Int) + 7) = (n : Int) + 7 := IntWalk.i64_in _ (by omega)
 have hw1 : IntKind.i64.wrap ((n : Int) / 8 + 1) = (n : Int) / 8 + 1 := IntWalk.i64_in _ (by omega)
 cases z
 ·rw [if_neg (by simp)]
  go_enter Tryz.func15, Tryz.ntmps15
  go_wp2_with fail
  go_ret
  exact ⟨by first | rfl | simp, rfl⟩
 ·by_cases h0 : n % 8 = 0
  ·rw [if_pos ⟨rfl, h0⟩]
   have q1 : ((n : Int) % 8 == 0) = true := by simp; omega
   go_enter Tryz.func15, Tryz.ntmps15
   go_wp2_with fail
   all_goals
    go_ret
    exact ⟨by first | rfl | simp, rfl⟩
  ·rw [if_neg (fun h => h0 h.2)]
   have q1 : ((n : Int) % 8 == 0) = false := by simp; omega
   go_enter Tryz.func15, Tryz.ntmps15
   go_wp2_with fail
   all_goals
    go_ret
    exact ⟨by first | rfl | simp, rfl⟩
set_option maxHeartbeats 4000000 in
set_option maxRecDepth 1000000 in
theorem begins_ret (A A' : Option Addr) (n c n' c' : Nat) (ys : List Int) (w : World) (hA : U8 w A n c (ys.take n)) (hB : U8 w A' n' c' ys) :
  Calls Tryz.prog 14 #[.slice A n c, .slice A' n' c'] w fun e w' => e = .returned (.bool true) ∧ ∃ q, w' = w.drewN q := by
 have hnn : n ≤ n' := by have := hA.1; have := hB.1; rw [List.length_take] at *; omega
 have q1 : (n : Int) ≤ (n' : Int) := by omega
 have q2 : (n : Int) ≤ (c' : Int) := by have := hB.2.2.1; omega
 have q3 : (0 : Int) ≤ (n : Int) := by omega
 have hT := hB.take hnn
 have d1 : decide ((n : Int) ≤ (n' : Int)) = true := by simp; omega
 have t1 := fun q => hA.text (P := Tryz.prog) (src := 23) (dst := 9) (e := 5) Tryz.underlying23 rfl rfl q
 have t2 := fun q => hT.text (P := Tryz.prog) (src := 23) (dst := 9) (e := 5) Tryz.underlying23 rfl rfl q
 generalize strOfNums (ys.take n) = S at t1 t2
 clear hT
 have hA' : A' = none ∧ n' = 0 ∧ c' = 0 ∨ ∃ a, A' = some a := hB.2.2.2.imp id (fun ⟨a, h, _⟩ => ⟨a, h⟩)
 clear hA hB
 rcases hA' with ⟨rfl, rfl, rfl⟩ | ⟨a, rfl⟩
 ·obtain rfl : n = 0 := by omega
  go_enter Tryz.func14, Tryz.ntmps14
  go_upto_region 1 with fail
  go_quiet (fail)
  go_wp2_with fail
  go_ret
  exact ⟨rfl, _, rfl⟩
 ·go_enter Tryz.func14, Tryz.ntmps14
  go_upto_region 1 with fail
  go_quiet (fail)
  go_wp2_with fail
  go_ret
  exact ⟨rfl, _, rfl⟩
def smallB (jn : Nat) (js : List (List Int)) (fn an : Nat) : Bool := decide (jn ≤ 8 ∧ js.flatten.length ≤ 300 ∧ fn ≤ 200 ∧ an ≤ 200)
set_option maxHeartbeats 4000000 in
set_option maxRecDepth 1000000 in
theorem small_ret (jA : Option Addr) (jn jc : Nat) (sA : Option Addr) (sn sc : Nat) (fA : Option Addr) (fn fc : Nat) (aA : Option Addr) (an ac : Nat) (z intr : Bool) (vs : List Value) (js : List (List Int)) (w : World) (hS : Sls w jA jn jc vs) (hll : vs.length = js.length) (hjn : jn ≤ 1000000000000000)
  (hle : ∀ (j : Nat) v b, vs[j]? = some v → js[j]? = some b → ∃ A n c, v = .slice A n c ∧ U8 w A n c b ∧ n ≤ 1000000000000000) :
  Calls Tryz.prog 6 #[.agg (sC jA jn jc sA sn sc fA fn fc aA an ac z intr)] w fun e w' => e = .returned (.bool (smallB jn js fn an)) ∧ Below w.heap.size w w' := by
 have hb : Below w.heap.size w (w.alloc (.cells (sC jA jn jc sA sn sc fA fn fc aA an ac z intr) 25)) := (Below.refl w.heap.size w).alloc (Nat.le_refl _) _
 unfold sC at hb ⊢
 have hsl := hS.1
 have hal := World.alloc_heap_new w (.cells #[.slice jA jn jc, .slice sA sn sc, .slice fA fn fc, .slice aA an ac, .bool z, .bool intr] 25)
 obtain ⟨w1, hw1⟩ : ∃ w1, w.alloc (.cells #[.slice jA jn jc, .slice sA sn sc, .slice fA fn fc, .slice aA an ac, .bool z, .bool intr] 25) = w1 := ⟨_, rfl⟩
 have hX : w1.heap[w.heap.size]? = some (.cells #[.slice jA jn jc, .slice sA sn sc, .slice fA fn fc, .slice aA an ac, .bool z, .bool intr] 25 (0, 0)) := by rw [← hw1]; exact heap_alloc_new w _
 rw [hw1] at hb
 clear hal
 go_enter Tryz.func6, Tryz.ntmps6
 go_upto_region 2 with fail
 try rw [hw1]
 clear hw1
 have x0 := cell_of hX 0
 have x2 := cell_of hX 2
 have x3 := cell_of hX 3
 go_wp2_with fail
 go_loop [3, 4] (fun n i => ∃ (k : Nat) (s : Int), i = .int .i64 k ∧ n = .int .i64 s ∧ k ≤ jn ∧ (k ≤ 8 → s = (sumTo js k : Int) ∧ sumTo js k ≤ k * 1000000000000000)) (fun n i => jn - (intOf i).toNat)
 case atStart => exact ⟨0, 0, rfl, rfl, by omega, fun _ => ⟨by rw [sumTo_zero]; rfl, by rw [sumTo_zero]; omega⟩⟩
 case round =>
  obtain ⟨k, s, rfl, rfl, hk, hs⟩ := hrel
  have HS := Lib.hid hs
  clear hs
  by_cases hlt : k < jn
  ·have q4 : (k : Int) < (jn : Int) := by omega
   have hkv : k < vs.length := by rw [hsl]; exact hlt
   obtain ⟨b, hbk⟩ : ∃ b, js[k]? = some b := ⟨_, List.getElem?_eq_getElem (by omega)⟩
   obtain ⟨A, m, c, hv, hu, hm⟩ := hle k _ b (List.getElem?_eq_getElem hkv) hbk
   have hvk : vs[k]? = some (.slice A m c) := by rw [List.getElem?_eq_getElem hkv, hv]
   obtain ⟨_, hlc, ⟨_, h0, _⟩ | ⟨a, rfl, hca⟩⟩ := id hS
   ·omega
   have ck := hca k _ hvk
   have ck1 := (hb.cell (World.block_lt_of_cell? _ _ ck)).trans ck
   have HBK := Lib.hid hbk
   have hml := hu.1
   have HML := Lib.hid hml
   have HW : Hid (k < 8 → IntKind.i64.wrap (s + (m : Int)) = s + (m : Int)) := Lib.hid (fun h => by
    obtain ⟨h1, h2⟩ := HS.out (by omega)
    rw [h1]
    exact IntWalk.i64_in _ (by omega))
   obtain ⟨s', hs'⟩ : ∃ s', IntKind.i64.wrap (s + (m : Int)) = s' := ⟨_, rfl⟩
   have HS' := Lib.hid hs'
   clear hbk hv hvk hu hml ck hca
   go_wp2_with fail
   go_round
   case rel =>
    refine ⟨k + 1, s', by go_num, by first | rfl | rw [HS'.out], by omega, fun h8 => ?_⟩
    obtain ⟨h1, h2⟩ := HS.out (by omega)
    have e := HS'.out
    rw [HW.out (by omega)] at e
    rw [sumTo_succ, HBK.out]
    simp only [Option.getD_some]
    have := HML.out
    omega
   case measure => simp [intOf]; omega
  ·obtain rfl : k = jn := by omega
   have hfl : js.flatten.length = sumTo js k := by rw [sumTo_flat, List.take_of_length_le (by omega)]
   by_cases h8 : k ≤ 8
   ·obtain ⟨hs1, hs2⟩ := HS.out h8
    subst hs1
    have hr : smallB k js fn an = (decide (sumTo js k ≤ 300) && decide (fn ≤ 200) && decide (an ≤ 200)) := by
     unfold smallB
     rw [hfl]
     simp [h8, Bool.and_assoc]
    have HRR := Lib.hid hr
    have d1 : decide ((k : Int) ≤ 8) = true := by simp; omega
    have e1 : decide ((sumTo js k : Int) ≤ 300) = decide (sumTo js k ≤ 300) := by rw [decide_eq_decide]; omega
    have e2 : decide ((fn : Int) ≤ 200) = decide (fn ≤ 200) := by rw [decide_eq_decide]; omega
    have e3 : decide ((an : Int) ≤ 200) = decide (an ≤ 200) := by rw [decide_eq_decide]; omega
    clear hr hfl hle hS
    by_cases b1 : sumTo js k ≤ 300
    ·have f1 : (sumTo js k : Int) ≤ 300 := by omega
     by_cases b2 : fn ≤ 200
     ·have f2 : (fn : Int) ≤ 200 := by omega
      by_cases b3 : an ≤ 200
      ·have f3 : (an : Int) ≤ 200 := by omega
       go_wp2_with fail
       go_ret
       exact ⟨by rw [HRR.out]; simp [b1, b2, b3], hb⟩
      ·have f3 : ¬ (an : Int) ≤ 200 := by omega
       go_wp2_with fail
       go_ret
       exact ⟨by rw [HRR.out]; simp [b1, b2, b3], hb⟩
     ·have f2 : ¬ (fn : Int) ≤ 200 := by omega
      go_wp2_with fail
      go_ret
      exact ⟨by rw [HRR.out]; simp [b1, b2], hb⟩
    ·have f1 : ¬ (sumTo js k : Int) ≤ 300 := by omega
     go_wp2_with fail
     go_ret
     exact ⟨by rw [HRR.out]; simp [b1], hb⟩
   ·have hr : smallB k js fn an = false := by unfold smallB; simp [h8]
    have HRR := Lib.hid hr
    have d1 : ¬ (k : Int) ≤ 8 := by omega
    clear hr
    go_wp2_with fail
    go_ret
    exact ⟨by rw [HRR.out]; rfl, hb⟩
end Go.Proofs.YtiajboiobjfcoaaGreatDoor
