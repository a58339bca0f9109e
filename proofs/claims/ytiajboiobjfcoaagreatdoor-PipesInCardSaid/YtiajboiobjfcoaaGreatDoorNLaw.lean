/-
  What is proved here: what plugboardlaw23.PipesIn returns.
  Conditions: what its argument's cells hold; what the law's examples return.
-/
import Derived.Test.YtiajboiobjfcoaaGreatDoorNRest
namespace Go.Proofs.YtiajboiobjfcoaaGreatDoor
open Go.Proofs Go.RowKit
attribute [local go_sem] lt2 lt3 lt4 lt5
attribute [-go_sem] Builtin.append_
set_option maxHeartbeats 8000000 in
set_option maxRecDepth 1000000 in
theorem in_law (oA : Option Addr) (on oc : Nat) (lA : Option Addr) (ln lc : Nat) (sA : Option Addr) (sn sc : Nat) (fA : Option Addr) (fn fc : Nat) (aA : Option Addr) (an ac : Nat) (vs : List Value) (ofs : List (List Int)) (ls ss fs ws : List Int) (w : World)
  (hS : Sls w oA on oc vs) (hll : vs.length = ofs.length) (hle : ∀ (j : Nat) v b, vs[j]? = some v → ofs[j]? = some b → ∃ A n c, v = .slice A n c ∧ U8 w A n c b ∧ n ≤ 1000000000000000 ∧ Pl A n)
  (hls : U8 w lA ln lc ls) (hss : U8 w sA sn sc ss) (hfs : U8 w fA fn fc fs) (hws : U8 w aA an ac ws)
  (hlives : ∀ w', Below w.heap.size w w' → Calls Tryz.prog 7 #[] w' (Go.Sy.LawEnd w')) (hlaid : Go.Sy.LaidW w stG) (hon : on ≤ 40) (hln : ln ≤ 10) (hfn : fn ≤ 200) (han : an ≤ 200) :
  Calls Tryz.prog 4 #[.agg (tC oA on oc lA ln lc sA sn sc fA fn fc aA an ac)] w (Go.Sy.LawEnd w) := by
 have q1 : ¬ (40 : Int) < (on : Int) := by omega
 have q2 : ¬ (10 : Int) < (ln : Int) := by omega
 have q3 : ¬ (200 : Int) < (fn : Int) := by omega
 have q4 : ¬ (200 : Int) < (an : Int) := by omega
 have hrg : ∀ b ∈ cutsN ofs, ∀ x ∈ b, 0 ≤ x ∧ x ≤ 255 := by
  intro b hb x hx
  obtain ⟨j, hj⟩ := List.mem_iff_getElem?.1 hb
  unfold cutsN at hj
  rw [List.getElem?_map, Option.map_eq_some_iff] at hj
  obtain ⟨b0, hj0, rfl⟩ := hj
  have hjl := (List.getElem?_eq_some_iff.1 hj0).1
  obtain ⟨_, _, _, _, hu, _⟩ := hle j _ b0 (List.getElem?_eq_getElem (by omega)) hj0
  exact hu.2.1 x (List.mem_of_mem_take hx)
 have HRG := Lib.hid hrg
 clear hrg
 have HLE := Lib.hid hle
 have HLI := Lib.hid hlives
 have HLL := Lib.hid hll
 clear hle hlives hll
 unfold tC
 go_enter Tryz.func4, Tryz.ntmps4
 go_upto_block 0 with fail
 obtain ⟨w0, hw0⟩ : ∃ w0, ((w.alloc (.cells #[.slice oA on oc, .slice lA ln lc, .slice sA sn sc, .slice fA fn fc, .slice aA an ac] 69)).alloc (.cells #[.int .u8 2, .bool true, .bool false, .bool false, .slice aA an ac, .int .i64 0, .slice none 0 0, .int .i64 0, .bool false, .bool false, .slice none 0 0, .int .i64 0] 34)).alloc (.cells #[.int .i64 0] 3) = w0 := ⟨_, rfl⟩
 have hb0 : Below w.heap.size w w0 := by rw [← hw0]; exact (((Below.refl w.heap.size w).alloc (Nat.le_refl _) _).alloc (by simp) _).alloc (by simp; omega) _
 have hX0 : w0.heap[w.heap.size]? = some (.cells #[.slice oA on oc, .slice lA ln lc, .slice sA sn sc, .slice fA fn fc, .slice aA an ac] 69 (0, 0)) := by rw [← hw0]; exact alloc3_0 _ _ _ _
 have hG0 : w0.heap[w.heap.size + 1]? = some (.cells (gC aA an ac none 0 0) 34 (0, 0)) := by rw [← hw0]; exact alloc3_1 _ _ _ _
 have hE0 : w0.heap[w.heap.size + 1 + 1]? = some (.cells #[.int .i64 0] 3 (0, 0)) := by rw [← hw0]; exact alloc3_2 _ _ _ _
 rw [hw0]
 clear hw0
 have hstart : Loop1 w #[.slice oA on oc, .slice lA ln lc, .slice sA sn sc, .slice fA fn fc, .slice aA an ac] aA an ac vs (cutsN ofs) 0 none 0 (.slice none 0 0) (some ⟨w.heap.size + 1 + 1, 0, none⟩) 1 w0 := by
  refine ⟨hb0, hX0, hG0, World.ownsRow_nil _ _ _ _, by simpa using World.ownsRow_nil _ _ _ _, ⟨rfl, .inr ⟨_, 1, _, rfl, Nat.le_refl _, hE0, Nat.le_refl _, by unfold maxLen; omega, rfl, rfl⟩⟩, fun i hi => by simp [Value.ownBlock] at hi, fun i hi => by simp [Value.ownBlock] at hi⟩
 have HST := Lib.hid hstart
 clear hstart hX0 hG0 hE0 hb0
 go_cut [4, 5] from 46 to 83 (fun a e wx => MidN w #[.slice oA on oc, .slice lA ln lc, .slice sA sn sc, .slice fA fn fc, .slice aA an ac] aA an ac vs (cutsN ofs) on a e wx)
 case first =>
  go_wp2_with fail
  go_loopw [4, 5, 6] (fun a e i wr => ∃ (k : Nat) (T : Option Addr) (tc : Nat) (E : Option Addr) (ec : Nat), i = .int .i64 k ∧ k ≤ on ∧ e = .slice E (k + 1) ec ∧ Loop1 w #[.slice oA on oc, .slice lA ln lc, .slice sA sn sc, .slice fA fn fc, .slice aA an ac] aA an ac vs (cutsN ofs) k T tc a E ec wr) (fun _ _ i _ => on - (intOf i).toNat)
  case atStart => exact ⟨0, none, 0, _, 1, rfl, by omega, rfl, HST.out⟩
  case round =>
   obtain ⟨k, T, tc, E, ec, rfl, hk, rfl, hL⟩ := hrel
   have x0 := cell_of hL.x 0
   by_cases hlt : k < on
   ·have q5 : (k : Int) < (on : Int) := by omega
    have hkv : k < vs.length := by rw [hS.1]; exact hlt
    have hll := HLL.out
    obtain ⟨b, hbk⟩ : ∃ b, ofs[k]? = some b := ⟨_, List.getElem?_eq_getElem (by omega)⟩
    obtain ⟨A, m, c, hv, hu, _, _⟩ := HLE.out k _ b (List.getElem?_eq_getElem hkv) hbk
    have hS0 := hS.1
    obtain ⟨_, hoc, ⟨_, h0, _⟩ | ⟨a, rfl, hca⟩⟩ := id hS
    ·omega
    have hvk : vs[k]? = some (.slice A m c) := by rw [List.getElem?_eq_getElem hkv, hv]
    have ckr := (hL.bel.cell (World.block_lt_of_cell? _ _ (hca k _ hvk))).trans (hca k _ hvk)
    have hmc := hu.2.2.1
    have hml := hu.1
    obtain ⟨mm, hmm⟩ : ∃ mm, min m 8 = mm := ⟨_, rfl⟩
    have hmin : min (m : Int) 8 = (mm : Int) := by omega
    have q6 : (mm : Int) ≤ (c : Int) := by omega
    have q7 : (0 : Int) ≤ (mm : Int) := by omega
    have hm8 : mm ≤ 8 := by omega
    have hcu := u8_cutN hu
    rw [hmm] at hcu
    have hbk8 : (cutsN ofs)[k]? = some (b.take 8) := by unfold cutsN; rw [List.getElem?_map, hbk]; rfl
    have HCU := Lib.hid hcu
    have HBK := Lib.hid hbk8
    have HVK := Lib.hid hvk
    have HMM := Lib.hid hmm
    have HL := Lib.hid hL
    clear hv hvk hca hu hbk hbk8 hcu hL hml hmm hS0 hll hS
    go_upto_region 9 with fail
    go_region
    obtain ⟨wd, hwd⟩ : ∃ wd, wr.drew = wd := ⟨_, rfl⟩
    have hbd : Below wr.heap.size wr wd := by rw [← hwd]; exact (Below.refl _ _).drew
    have hsd : wd.heap.size ≤ wr.heap.size ∧ wr.heap.size ≤ wd.heap.size := by rw [← hwd]; exact ⟨Nat.le_refl _, Nat.le_refl _⟩
    rw [hwd]
    clear hwd x0 ckr
    have hL := HL.out
    have hb1 : Below wd.heap.size wd (wd.alloc (.cells #[.slice A mm c] 23)) := (Below.refl _ _).alloc (Nat.le_refl _) _
    have hszX : w.heap.size + 1 < wr.heap.size := (Array.getElem?_eq_some_iff.1 hL.g).1
    have hszB : w.heap.size + 1 + 1 ≤ wr.heap.size := hszX
    have hbw1 := (hL.bel.trans (hbd.mono hL.bel.size)).trans (hb1.mono (by have := hL.bel.size; omega))
    have hs1 : (wd.alloc (.cells #[.slice A mm c] 23)).heap.size ≤ wd.heap.size + 1 ∧ wd.heap.size + 1 ≤ (wd.alloc (.cells #[.slice A mm c] 23)).heap.size := by simp
    have hoT := hL.own.lt
    have hoA := hL.al.lt
    have hoE := hL.en.lt
    obtain ⟨T2, tc2, w2, hrun, ho2, hgr2, hat2, gT, rfl⟩ := app1SN (w := wd.alloc (.cells #[.slice A mm c] 23)) A mm c (own_below (own_below hL.own hbd) hb1) (heap_alloc_new wd _) (by omega) (by omega)
    have hG1 := heap_below (heap_below hL.g hbd) hb1
    have hX1 := heap_below (heap_below hL.x hbd) hb1
    have hal1 := own_below (own_below hL.al hbd) hb1
    have hen1 := own_below (own_below hL.en hbd) hb1
    have gd := heap_below hL.g hbd
    unfold gC at gd
    have g6 := cell_of gd 6
    have hG2 := heap_grown hG1 hgr2 (fun e => by have := hoT _ e; omega)
    have hX2 := heap_grown hX1 hgr2 (fun e => by have := hoT _ e; omega)
    have hal2 := own_gr hal1 hgr2 (fun i hi e => (hL.d1 i e).1 hi)
    have hen2 := own_gr hen1 hgr2 (fun i hi e => (hL.d1 i e).2 hi)
    have hs2 := hgr2.size
    have hbw2 : Below w.heap.size w w2 := hbw1.grown hgr2 (by omega) (fun i hi => by have := hoT i hi; omega)
    have hgT := ho2.lt gT rfl
    have hG2' := hG2
    unfold gC at hG2'
    have g6' := cell_of hG2' 6
    have f6' := frozen_of hG2' 6
    have hD1 := Lib.hid hL.d1
    have hD2 := Lib.hid hL.d2
    clear hL hgr2 hG1 hX1 hal1 hen1 gd hG2' hb1 hbd
    go_upto_region 11 with fail
    obtain ⟨w3, hw3⟩ : ∃ w3, w2.setCell ⟨w.heap.size + 1, 6, none⟩ (.slice (some ⟨gT, 0, none⟩) (k + 1) tc2) = w3 := ⟨_, rfl⟩
    have hW3 : Wrote (w.heap.size + 1) w2 w3 := by rw [← hw3]; exact (Wrote.refl _ w2).setCell 6 _
    have hG3 : w3.heap[w.heap.size + 1]? = some (.cells (gC aA an ac (some ⟨gT, 0, none⟩) (k + 1) tc2) 34 (0, 0)) := by rw [← hw3]; exact setCell_heap hG2 6 _
    rw [hw3]
    clear hw3 g6 g6' f6' hrun hG2
    have hX3 := (hW3.other w.heap.size (by omega)).trans hX2
    have ho3 := own_wg ho2 hW3 (fun i hi => by have := Option.some.inj (show some gT = some i from hi); omega)
    have hal3 := own_wg hal2 hW3 (fun i hi => by have := hoA i hi; omega)
    have hen3 := own_wg hen2 hW3 (fun i hi => by have := hoE i hi; omega)
    have hs3 : w3.heap.size ≤ w2.heap.size ∧ w2.heap.size ≤ w3.heap.size := ⟨Nat.le_of_eq hW3.size, Nat.le_of_eq hW3.size.symm⟩
    have hbw3 := hbw2.trans (hW3.below (by omega))
    have hln3 := flat8 (cutsN ofs) (cutsN_le ofs) k
    obtain ⟨v4, w4, hrun8, ho4, hgr4, hat4⟩ := app8 (w := w3) (B1 := w.heap.size + 1 + 1) (tv := u4) (A := A) (n := mm) (c := c) hal3 (HCU.out.below hbw3) (by omega) (by omega) (by omega)
    have hrng : ∀ x ∈ ((cutsN ofs).take k).flatten ++ b.take 8, 0 ≤ x ∧ x ≤ 255 := by
     intro x hx
     rcases List.mem_append.1 hx with hx | hx
     ·obtain ⟨y, hy, hx⟩ := List.mem_flatten.1 hx
      exact HRG.out y (List.mem_of_mem_take hy) x hx
     ·exact HCU.out.2.1 x hx
    obtain ⟨n4, hn4⟩ : ∃ n4, (((cutsN ofs).take k).flatten ++ b.take 8).length = n4 := ⟨_, rfl⟩
    rw [hn4] at ho4
    obtain ⟨A4, c4, rfl, _, _⟩ := u8_row hrng ho4
    have HN4 := Lib.hid hn4
    have hX4 := heap_grown hX3 hgr4 (fun e => by have := hoA _ e; omega)
    have hG4 := heap_grown hG3 hgr4 (fun e => by have := hoA _ e; omega)
    have ho4' := own_gr ho3 hgr4 (fun i hi e => by
     have e1 := Option.some.inj (show some gT = some i from hi)
     subst e1
     rcases hat2 gT rfl with h | h
     ·exact (hD1.out gT h).1 e
     ·have := hoA gT e; omega)
    have hen4 := own_gr hen3 hgr4 (fun i hi e => hD2.out i e hi)
    have hs4 := hgr4.size
    have hbw4 : Below w.heap.size w w4 := hbw3.grown hgr4 (by omega) (fun i hi => by have := hoA i hi; omega)
    have hoA4 := ho4.lt
    clear hn4 hrng hX2 hX3 hG3 ho2 ho3 hal2 hal3 hen2 hen3 hgr4 hW3 hbw1 hbw2 hbw3
    go_upto_region 12 with fail
    clear hrun8
    have hb5 : Below w4.heap.size w4 (w4.alloc (.cells #[.int .i64 (n4 : Int)] 3)) := (Below.refl _ _).alloc (Nat.le_refl _) _
    have hs5 : (w4.alloc (.cells #[.int .i64 (n4 : Int)] 3)).heap.size ≤ w4.heap.size + 1 ∧ w4.heap.size + 1 ≤ (w4.alloc (.cells #[.int .i64 (n4 : Int)] 3)).heap.size := by simp
    obtain ⟨E6, ec6, w6, hrun6, ho6, hgr6, hat6, gE, rfl⟩ := app1IN (w := w4.alloc (.cells #[.int .i64 (n4 : Int)] 3)) (n4 : Int) (own_below hen4 hb5) (heap_alloc_new w4 _) (by omega) (by omega)
    have hX6 := heap_grown (heap_below hX4 hb5) hgr6 (fun e => by have := hoE _ e; omega)
    have hG6 := heap_grown (heap_below hG4 hb5) hgr6 (fun e => by have := hoE _ e; omega)
    have hneT : ∀ i, (Value.slice (some ⟨gT, 0, none⟩) (k + 1) tc2).ownBlock = some i → (Value.slice A4 n4 c4).ownBlock ≠ some i ∧ (Value.slice E (k + 1) ec).ownBlock ≠ some i ∧ i < w3.heap.size := by
     intro i hi
     have e1 := Option.some.inj (show some gT = some i from hi)
     subst e1
     refine ⟨fun e => ?_, fun e => ?_, by omega⟩
     ·rcases hat4 gT e with h | h
      ·rcases hat2 gT rfl with h' | h'
       ·exact (hD1.out gT h').1 h
       ·have := hoA gT h; omega
      ·omega
     ·rcases hat2 gT rfl with h' | h'
      ·exact (hD1.out gT h').2 e
      ·have := hoE gT e; omega
    have hneA : ∀ i, (Value.slice A4 n4 c4).ownBlock = some i → (Value.slice E (k + 1) ec).ownBlock ≠ some i := by
     intro i hi e
     rcases hat4 i hi with h | h
     ·exact hD2.out i h e
     ·have := hoE i e; omega
    have ho6' := own_gr (own_below ho4' hb5) hgr6 (fun i hi => (hneT i hi).2.1)
    have hal6 := own_gr (own_below ho4 hb5) hgr6 (fun i hi => hneA i hi)
    have hbw6 : Below w.heap.size w w6 := (hbw4.trans (hb5.mono hbw4.size)).grown hgr6 (by omega) (fun i hi => by have := hoE i hi; omega)
    have HH : Hid (Loop1 w #[.slice (some a) on oc, .slice lA ln lc, .slice sA sn sc, .slice fA fn fc, .slice aA an ac] aA an ac vs (cutsN ofs) (k + 1) (some ⟨gT, 0, none⟩) tc2 (.slice A4 n4 c4) (some ⟨gE, 0, none⟩) ec6 w6) := by
     refine Lib.hid ⟨hbw6, hX6, hG6, ?_, ?_, ?_, fun i hi => ⟨(hneT i hi).1, fun e => ?_⟩, fun i hi e => ?_⟩
     ·have e1 : (vs.take (k + 1)).map cutVN = (vs.take k).map cutVN ++ [.slice A mm c] := by
       rw [List.take_add_one, HVK.out]
       simp [cutVN, HMM.out]
      rw [e1]
      exact ho6'
     ·have e1 : ((cutsN ofs).take (k + 1)).flatten = ((cutsN ofs).take k).flatten ++ b.take 8 := by
       rw [List.take_add_one, HBK.out]
       simp
      rw [e1, HN4.out]
      exact hal6
     ·have e1 : ((cutsN ofs).take (k + 1)).flatten = ((cutsN ofs).take k).flatten ++ b.take 8 := by
       rw [List.take_add_one, HBK.out]
       simp
      rw [endsN_succ, e1, HN4.out, List.map_append]
      exact ho6
     ·rcases hat6 i e with h | h
      ·exact (hneT i hi).2.1 h
      ·have := (hneT i hi).2.2; omega
     ·rcases hat6 i e with h | h
      ·exact hneA i hi h
      ·have := hoA4 i hi; omega
    clear hX6 hG6 hneT hneA ho6' hal6 hbw6 hgr6 ho6 hat6 hat4 hat2 hen4 ho4 ho4' hX4 hG4 hoA4 hbw4 hoT hoA hoE hb5
    go_wp2_with fail
    go_round
    case rel => exact ⟨k + 1, _, _, _, _, by go_num, by omega, rfl, HH.out⟩
    case measure => simp [intOf]; omega
   ·obtain rfl : k = on := by omega
    have HL := Lib.hid hL
    clear hL
    go_wp2_with fail
    go_meet
    exact ⟨_, _, _, _, rfl, HL.out⟩
 case rest =>
  go_step
  exact in_rest oA on oc lA ln lc sA sn sc fA fn fc aA an ac vs ofs ls ss fs ws w wc hS.1 HLL.out HLE.out hls hss hfs hws HLI.out hlaid hon hln hfn han _ _ _ _ _ _ _ _ _ _ _ _ _ _ _ _ _ _ _ _ _ _ _ _ _ _ _ _ _ _ _ _ _ _ _ _ _ _ _ _ _ _ _ _ _ _ _ _ _ _ _ _ _ _ _ _ _ _ _ _ _ _ _ _ _ _ _ _ _ _ _ _ _ _ _ _ _ _ _ _ _ _ _ _ _ _ _ _ _ _ _ _ _ _ _ _ _ _ _ _ _ _ _ _ _ _ _ _ _ _ _ _ _ _ _ _ _ _ _ _ _ _ _ _ _ _ _ _ _ _ _ _ _ _ _ _ _ _ _ _ _ _ _ _ _ _ _ _ _ _ _ _ _ _ _ _ _ _ _ _ _ _ _ _ _ _ _ _ _ _ _ _ _ _ _ _ _ _ _ _ _ _ _ _ _ _ _ _ _ _ _ _ _ _ _ _ _ _ _ _ _ _ _ _ _ _ _ _ _ _ _ _ _ _ _ _ _ _ _ _ _ _ _ _ _ _ _ _ _ _ _ _ _ _ _ _ _ _ hcut
set_option maxHeartbeats 4000000 in
set_option maxRecDepth 1000000 in
theorem in_early (oA : Option Addr) (on oc : Nat) (lA : Option Addr) (ln lc : Nat) (sA : Option Addr) (sn sc : Nat) (fA : Option Addr) (fn fc : Nat) (aA : Option Addr) (an ac : Nat) (w : World)
  (hlives : ∀ w', Below w.heap.size w w' → Calls Tryz.prog 7 #[] w' (Go.Sy.LawEnd w')) (hno : ¬ (on ≤ 40 ∧ ln ≤ 10 ∧ fn ≤ 200 ∧ an ≤ 200)) :
  Calls Tryz.prog 4 #[.agg (tC oA on oc lA ln lc sA sn sc fA fn fc aA an ac)] w (Go.Sy.LawEnd w) := by
 have hb : ∀ o, Below w.heap.size w (w.alloc o) := fun o => (Below.refl w.heap.size w).alloc (Nat.le_refl _) o
 have HLI := Lib.hid hlives
 clear hlives
 unfold tC
 by_cases h1 : on ≤ 40
 ·have q1 : ¬ (40 : Int) < (on : Int) := by omega
  by_cases h2 : ln ≤ 10
  ·have q2 : ¬ (10 : Int) < (ln : Int) := by omega
   by_cases h3 : fn ≤ 200
   ·have q3 : ¬ (200 : Int) < (fn : Int) := by omega
    have q4 : (200 : Int) < (an : Int) := by omega
    clear hno
    go_enter Tryz.func4, Tryz.ntmps4
    go_wp2_with fail
    refine (HLI.out _ (hb _)).mono ?_
    rintro e w2 ⟨rfl, hb2⟩
    go_wp2_with fail
    go_ret
    exact ⟨rfl, (hb _).trans (hb2.mono (hb _).size)⟩
   ·have q3 : (200 : Int) < (fn : Int) := by omega
    clear hno
    go_enter Tryz.func4, Tryz.ntmps4
    go_wp2_with fail
    refine (HLI.out _ (hb _)).mono ?_
    rintro e w2 ⟨rfl, hb2⟩
    go_wp2_with fail
    go_ret
    exact ⟨rfl, (hb _).trans (hb2.mono (hb _).size)⟩
  ·have q2 : (10 : Int) < (ln : Int) := by omega
   clear hno
   go_enter Tryz.func4, Tryz.ntmps4
   go_wp2_with fail
   refine (HLI.out _ (hb _)).mono ?_
   rintro e w2 ⟨rfl, hb2⟩
   go_wp2_with fail
   go_ret
   exact ⟨rfl, (hb _).trans (hb2.mono (hb _).size)⟩
 ·have q1 : (40 : Int) < (on : Int) := by omega
  clear hno
  go_enter Tryz.func4, Tryz.ntmps4
  go_wp2_with fail
  refine (HLI.out _ (hb _)).mono ?_
  rintro e w2 ⟨rfl, hb2⟩
  go_wp2_with fail
  go_ret
  exact ⟨rfl, (hb _).trans (hb2.mono (hb _).size)⟩
end Go.Proofs.YtiajboiobjfcoaaGreatDoor
