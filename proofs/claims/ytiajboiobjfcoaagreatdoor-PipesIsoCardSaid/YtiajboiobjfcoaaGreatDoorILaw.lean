/-
  What is proved here: what plugboardlaw23.PipesIso returns.
  Conditions: what its arguments' cells hold; what the law's examples return.
-/
import Derived.Test.YtiajboiobjfcoaaGreatDoorIR17
namespace Go.Proofs.YtiajboiobjfcoaaGreatDoor
open Go.Proofs Go.RowKit
attribute [local go_sem] lt2 lt3 lt4 lt5
attribute [-go_sem] Builtin.append_
theorem infoSl : (Tryz.prog.info? 23).map (fun i => (i.zero, i.size, i.bytes)) = some (some (.slice none 0 0), 1, 24) := by kernel_rfl
theorem app1S {w : World} {B1 g : Nat} {T : Option Addr} {tm tc : Nat} {ys : List Value} (A : Option Addr) (n c : Nat) (hown : w.ownsRow B1 23 1 (.slice T tm tc) tm ys) (hg : w.heap[g]? = some (.cells #[.slice A n c] 23 (0, 0))) (hy : tm ≤ 1000000) (hB : B1 ≤ w.heap.size) :
  ∃ T' tc' w', (Builtin.append_ #[22, 22] 22 #[.slice T tm tc, .slice (some ⟨g, 0, none⟩) 1 1]).run Tryz.prog w = .ok (.slice T' (tm + 1) tc') w' ∧ w'.ownsRow B1 23 1 (.slice T' (tm + 1) tc') (tm + 1) (ys ++ [.slice A n c]) ∧ w.grownBy w' (Value.slice T tm tc).ownBlock ∧ (∀ i, (Value.slice T' (tm + 1) tc').ownBlock = some i → (Value.slice T tm tc).ownBlock = some i ∨ w.heap.size ≤ i) ∧ ∃ g', T' = some ⟨g', 0, none⟩ := by
 obtain ⟨i0, hi, hz0, hz1, hz2⟩ := info_parts infoSl
 obtain ⟨tv', w', hr, ho, hgr, _, hat⟩ := run_append_own_at (P := Tryz.prog) w B1 22 22 23 i0 (.slice none 0 0) 1 24 Tryz.underlying22 hi hz0 hz1 hz2 rfl (by decide) (.slice T tm tc) _ _ hown ⟨g, 0, none⟩ 1 1 [.slice A n c] rfl (World.news_of_block hg) (fun u hu => by obtain rfl := List.mem_singleton.1 hu; rfl) (by unfold maxLen; omega) (by omega) hB
 have hform := ho.2
 rcases hform with ⟨h, h0⟩ | ⟨g', cap, cur, rfl, hg', _⟩
 ·omega
 ·refine ⟨_, cap, w', hr, ho, hgr, fun i h => ?_, g', rfl⟩
  rcases hat with hat | hat
  ·exact .inl (by rw [← hat]; exact h)
  ·rw [hat] at h; exact .inr (by have := Option.some.inj h; omega)
def cutV : Value → Value
 | .slice A n c => .slice A (min n 8) c
 | v => v
def gCells (inn : Bool) (T : Option Addr) (k tc : Nat) : Array Value := #[.int .u8 2, .bool inn, .bool true, .bool false, .slice none 0 0, .int .i64 0, .slice T k tc, .int .i64 0, .bool false, .bool false, .slice none 0 0, .int .i64 0]
def jCells (A : Option Addr) (n c : Nat) (m : Int) : Array Value := #[.int .u8 0, .int .u8 0, .int .u16 0, .int .u16 0, .int .u16 0, .slice none 0 0, .int .i64 0, .bool false, .slice A n c, .int .i64 m]
def cuts (ls : List (List Int)) : List (List Int) := ls.map (List.take 8)
theorem cuts_le (ls : List (List Int)) : ∀ b ∈ cuts ls, b.length ≤ 8 := by
 intro b hb
 obtain ⟨x, _, rfl⟩ := List.mem_map.1 hb
 simp; omega
theorem sls_own {w : World} {B : Nat} {t : TypeId} {A : Option Addr} {n c : Nat} {us : List Value} (h : w.ownsRow B t 1 (.slice A n c) n us) : Sls w A n c us := by
 have hul : us.length = n := by have := h.1; omega
 rcases id h.2 with ⟨e, h0⟩ | ⟨g, cap, cur, e, _, hh, hc, _⟩
 ·injection e with e1 e2 e3
  exact ⟨hul, by omega, .inl ⟨e1, e2, e3⟩⟩
 ·injection e with e1 e2 e3
  subst e1 e3
  refine ⟨hul, hc, .inr ⟨_, rfl, fun j v hj => ?_⟩⟩
  have hjl := (List.getElem?_eq_some_iff.1 hj).1
  rw [show (⟨g, 0, none⟩ : Addr).add j = ⟨g, j, none⟩ by unfold Addr.add; split <;> simp_all]
  exact (h.cellAt j (by omega)).trans (by first | exact hj | rw [← hj])
theorem u8_cut {w : World} {A : Option Addr} {n c : Nat} {xs : List Int} (h : U8 w A n c xs) : U8 w A (min n 8) c (xs.take 8) := by
 obtain ⟨h1, h2, h3, h4⟩ := h
 refine ⟨by simp [h1]; omega, fun x hx => h2 x (List.mem_of_mem_take hx), by omega, ?_⟩
 rcases h4 with ⟨rfl, rfl, rfl⟩ | ⟨a, rfl, h5⟩
 ·exact .inl ⟨rfl, rfl, rfl⟩
 ·refine .inr ⟨a, rfl, fun j hj => ?_⟩
  rw [h5 j (by omega), List.getElem?_take_of_lt (by omega)]
theorem cut_b8 {w wr : World} {vs : List Value} {ls : List (List Int)} (hll : vs.length = ls.length) (hle : ∀ (j : Nat) v b, vs[j]? = some v → ls[j]? = some b → ∃ A n c, v = .slice A n c ∧ U8 w A n c b) (hb : Below w.heap.size w wr) : B8s wr (vs.map cutV) (cuts ls) := by
 refine ⟨by unfold cuts; simp [hll], fun j v b hj hjb => ?_⟩
 rw [List.getElem?_map, Option.map_eq_some_iff] at hj
 unfold cuts at hjb
 rw [List.getElem?_map, Option.map_eq_some_iff] at hjb
 obtain ⟨v0, h1, rfl⟩ := hj
 obtain ⟨b0, h2, rfl⟩ := hjb
 obtain ⟨A, n, c, rfl, hu⟩ := hle j v0 b0 h1 h2
 exact ⟨A, min n 8, c, rfl, (u8_cut hu).below hb, by omega⟩
theorem two_more {w4 w5 w6 : World} {o1 o2 : Obj} (hW5 : Wrote w4.heap.size ((w4.alloc o1).alloc o2) w5) (hW6 : Wrote (w4.heap.size + 1) w5 w6) : Below w4.heap.size w4 w6 :=
 ((((Below.refl w4.heap.size w4).alloc (Nat.le_refl _) o1).alloc (by simp) o2).trans (hW5.below (Nat.le_refl _))).trans (hW6.below (Nat.le_succ _))
theorem cut_fx {w : World} {vs : List Value} {ls : List (List Int)} (hll : vs.length = ls.length) (hle : ∀ (j : Nat) v b, vs[j]? = some v → ls[j]? = some b → ∃ A n c, v = .slice A n c ∧ U8 w A n c b) (j : Nat) (A : Option Addr) (n c : Nat) (h : (vs.map cutV)[j]? = some (.slice A n c)) : n = 0 ∨ ∃ a, A = some a ∧ a.block < w.heap.size := by
 rw [List.getElem?_map, Option.map_eq_some_iff] at h
 obtain ⟨v0, h1, h2⟩ := h
 have hj : j < ls.length := by rw [← hll]; exact (List.getElem?_eq_some_iff.1 h1).1
 obtain ⟨A', n', c', rfl, hu⟩ := hle j v0 _ h1 (List.getElem?_eq_getElem hj)
 injection h2 with e1 e2 e3
 subst e1
 rcases u8_lt hu with h0 | h0
 ·exact .inl (by omega)
 ·rcases hu.2.2.2 with ⟨_, h0, _⟩ | ⟨a, rfl, _⟩
  ·exact .inl (by omega)
  ·exact .inr ⟨a, rfl, h0 a rfl⟩
structure LoopAt (w : World) (inn : Bool) (vs : List Value) (ln : Nat) (k : Nat) (T : Option Addr) (tc : Nat) (wr : World) : Prop where
 bel : Below w.heap.size w wr
 p : wr.heap[w.heap.size]? = some (.cells (pCells inn) 30 (0, 0))
 g : wr.heap[w.heap.size + 1]? = some (.cells (gCells inn T k tc) 34 (0, 0))
 j : wr.heap[w.heap.size + 1 + 1]? = some (.cells (jCells none 0 0 (ln : Int)) 58 (0, 0))
 own : wr.ownsRow (w.heap.size + 1 + 1 + 1) 23 1 (.slice T k tc) k ((vs.take k).map cutV)
 pl : k = 0 ∨ ∃ g, T = some ⟨g, 0, none⟩
set_option maxHeartbeats 8000000 in
set_option maxRecDepth 1000000 in
theorem iso_law (lA : Option Addr) (ln lc : Nat) (fA : Option Addr) (fn fc : Nat) (inn : Bool) (vs : List Value) (ls : List (List Int)) (fs : List Int) (w : World) (hl : Sls w lA ln lc vs) (hll : vs.length = ls.length)
    (hle : ∀ (j : Nat) v b, vs[j]? = some v → ls[j]? = some b → ∃ A n c, v = .slice A n c ∧ U8 w A n c b) (hf : U8 w fA fn fc fs)
    (hlives : ∀ w', Below w.heap.size w w' → Calls Tryz.prog 7 #[] w' (Go.Sy.LawEnd w')) (h1 : 1 ≤ ln ∧ ln ≤ 30) (h2 : fn ≤ 100) :
    Calls Tryz.prog 5 #[.slice lA ln lc, .slice fA fn fc, .bool inn] w (Go.Sy.LawEnd w) := by
  have q1 : ¬ (ln : Int) < 1 := by omega
  have q2 : ¬ (30 : Int) < (ln : Int) := by omega
  have q3 : ¬ (100 : Int) < (fn : Int) := by omega
  have d1 : decide ((ln : Int) < 1) = false := by simp; omega
  have d2 : decide ((30 : Int) < (ln : Int)) = false := by simp; omega
  have d3 : decide ((100 : Int) < (fn : Int)) = false := by simp; omega
  go_enter Tryz.func5, Tryz.ntmps5
  go_upto_region 8 with fail
  go_loopw [10, 11] (fun n i wr => ∃ (k : Nat) (T : Option Addr) (tc : Nat), i = .int .i64 k ∧ n = .int .i64 (sumTo (cuts ls) k : Int) ∧ k ≤ ln ∧ LoopAt w inn vs ln k T tc wr) (fun _ i _ => ln - (intOf i).toNat)
  case atStart => exact ⟨0, none, 0, rfl, rfl, by omega, ⟨((((Below.refl w.heap.size w).alloc (Nat.le_refl _) _).alloc (by simp) _).alloc (by simp; omega) _), alloc3_0 _ _ _ _, alloc3_1 _ _ _ _, alloc3_2 _ _ _ _, World.ownsRow_nil _ _ _ _, .inl rfl⟩⟩
  case round =>
    obtain ⟨k, T, tc, rfl, rfl, hk, hL⟩ := hrel
    by_cases hlt : k < ln
    · have q4 : (k : Int) < (ln : Int) := by omega
      have hkv : k < vs.length := by rw [hl.1]; exact hlt
      obtain ⟨b, hbk⟩ : ∃ b, ls[k]? = some b := ⟨_, List.getElem?_eq_getElem (by omega)⟩
      obtain ⟨A, m, c, hv, hu⟩ := hle k _ b (List.getElem?_eq_getElem hkv) hbk
      have hl0 := hl.1
      obtain ⟨_, hlc, ⟨_, h0, _⟩ | ⟨a, rfl, hca⟩⟩ := hl
      · omega
      have hvk : vs[k]? = some (.slice A m c) := by rw [List.getElem?_eq_getElem hkv, hv]
      have ck := hca k _ hvk
      have ckr := (hL.bel.cell (World.block_lt_of_cell? _ _ ck)).trans ck
      have hgb := hL.g
      unfold gCells at hgb
      have b6 := cell_of hgb 6
      have f6 := frozen_of hgb 6
      have hmc := hu.2.2.1
      have hml := hu.1
      obtain ⟨mm, hmm⟩ : ∃ mm, min m 8 = mm := ⟨_, rfl⟩
      have hba : ∀ o, Below wr.heap.size wr (wr.alloc o).drew := fun o => ((Below.refl _ wr).alloc (Nat.le_refl _) o).drew
      obtain ⟨T2, tc2, w2, hrun, ho2, hgr2, hat2, hpl2⟩ := app1S (w := (wr.alloc (.cells #[.slice A mm c] 23)).drew) A mm c (own_below hL.own (hba _)) (heap_alloc_new wr (.cells #[.slice A mm c] 23)) (by omega) (Nat.le_trans (by have := (Array.getElem?_eq_some_iff.1 hL.j).1; omega) (hba _).size)
      have b6a : ∀ o, (wr.alloc o).cell? ⟨w.heap.size + 1, 6, none⟩ = some (.slice T k tc) := fun o => (World.cell?_alloc_lt _ o _ (World.block_lt_of_cell? _ _ b6)).trans b6
      have hHRUN := Lib.hid hL
      have HVK := Lib.hid hvk
      clear hL hle hlives hca hvk ck hv
      have hne : ∀ i, (Value.slice T k tc).ownBlock = some i → w.heap.size + 1 + 1 + 1 ≤ i := fun i hi => (hHRUN.out.own.lt i hi).1
      have hg2 := heap_grown (w := (wr.alloc (.cells #[.slice A mm c] 23)).drew) (heap_below hgb (hba _)) hgr2 (fun e => by have := hne _ e; omega)
      have g6 := cell_of hg2 6
      have h6 := frozen_of hg2 6
      clear hne
      go_upto_region 10 with fail
      have hmin : min (m : Int) 8 = (mm : Int) := by omega
      have q5 : (mm : Int) ≤ (c : Int) := by omega
      have q6 : (0 : Int) ≤ (mm : Int) := by omega
      have hmx : mm = min m 8 := hmm.symm
      have HMX := Lib.hid hmx
      clear hmx hmm
      obtain ⟨gT, rfl⟩ := hpl2
      have hs2 := hgr2.size
      have hszw : w.heap.size + 1 + 1 < wr.heap.size := (Array.getElem?_eq_some_iff.1 hHRUN.out.j).1
      have hnT : gT ≠ w.heap.size + 1 := fun e => by
        rcases hat2 gT rfl with h | h
        · have := (hHRUN.out.own.lt gT h).1; omega
        · simp at h; omega
      have cT2 : w2.cell? ⟨gT, k, none⟩ = some (.slice A mm c) := by
        have h := ho2.cellAt k (by omega)
        rw [List.getElem?_append_right (by simp; omega)] at h
        have hvl : vs.length = ln := by have := hl0; exact this
        simpa [List.length_take, show min k vs.length = k by omega] using h
      have q7 : (k : Int) < ((k + 1 : Nat) : Int) := by omega
      have hsk := sumTo_le (cuts ls) (cuts_le ls) k
      have hw3 : IntKind.i64.wrap ((sumTo (cuts ls) k : Int) + (mm : Int)) = (sumTo (cuts ls) k : Int) + (mm : Int) := IntWalk.i64_in _ (by omega)
      go_region
      obtain ⟨w3, hw3'⟩ : ∃ w3, w2.setCell ⟨w.heap.size + 1, 6, none⟩ (.slice (some ⟨gT, 0, none⟩) (k + 1) tc2) = w3 := ⟨_, rfl⟩
      have hW3 : Wrote (w.heap.size + 1) w2 w3 := by rw [← hw3']; exact (Wrote.refl _ w2).setCell 6 _
      have hg3 : w3.heap[w.heap.size + 1]? = some (.cells (gCells inn (some ⟨gT, 0, none⟩) (k + 1) tc2) 34 (0, 0)) := by rw [← hw3']; exact setCell_heap hg2 6 _
      rw [hw3']
      clear hw3' b6 f6 b6a g6 h6
      have g6 : w3.cell? ⟨w.heap.size + 1, 6, none⟩ = some (.slice (some ⟨gT, 0, none⟩) (k + 1) tc2) := cell_of hg3 6
      have cT3 : w3.cell? ⟨gT, k, none⟩ = some (.slice A mm c) := (hW3.cell (p := ⟨gT, k, none⟩) hnT).trans cT2
      go_wp2_with fail
      go_round
      case rel =>
        have hL := hHRUN.out
        have hbr : Below w.heap.size wr w2 := ((hba (.cells #[.slice A mm c] 23)).mono hL.bel.size).trans ((Below.refl _ _).grown hgr2 (by have := (hba (.cells #[.slice A mm c] 23)).size; omega) (fun i hi => by have := (hL.own.lt i hi).1; omega))
        refine ⟨k + 1, _, tc2, by go_num, ?_, by omega, ⟨(hL.bel.trans hbr).trans (hW3.below (by omega)), ?_, hg3, ?_, ?_, .inr ⟨gT, rfl⟩⟩⟩
        · have hmx := HMX.out
          have : (cuts ls)[k]? = some (b.take 8) := by unfold cuts; rw [List.getElem?_map, hbk]; rfl
          rw [sumTo_succ, this]
          simp [hml, hmx]
          omega
        · exact (hW3.other _ (by omega)).trans (heap_grown (w := (wr.alloc (.cells #[.slice A mm c] 23)).drew) (heap_below hL.p (hba _)) hgr2 (fun e => by have := (hL.own.lt _ e).1; omega))
        · exact (hW3.other _ (by omega)).trans (heap_grown (w := (wr.alloc (.cells #[.slice A mm c] 23)).drew) (heap_below hL.j (hba _)) hgr2 (fun e => by have := (hL.own.lt _ e).1; omega))
        · have e1 : (vs.take (k + 1)).map cutV = (vs.take k).map cutV ++ [.slice A mm c] := by
            rw [List.take_add_one, HVK.out]
            simp [cutV, HMX.out]
          rw [e1]
          exact own_wg ho2 hW3 (fun i hi => by
            have := Option.some.inj (show some gT = some i from hi)
            omega)
      case measure => simp [intOf]; omega
    · obtain rfl : k = ln := by omega
      have hvl : vs.length = k := hl.1
      obtain ⟨gT, rfl⟩ : ∃ g, T = some ⟨g, 0, none⟩ := by
        rcases hL.pl with h | h
        · omega
        · exact h
      have hcl : (cuts ls).length = k := by unfold cuts; rw [List.length_map, ← hll, hvl]
      have hown := hL.own
      rw [List.take_of_length_le (by omega)] at hown
      have hA := sls_own hown
      have hB := cut_b8 hll hle hL.bel
      have hfx := cut_fx hll hle
      have HFX := Lib.hid hfx
      have HLI := Lib.hid hlives
      have b6 : wr.cell? ⟨w.heap.size + 1, 6, none⟩ = some (.slice (some ⟨gT, 0, none⟩) k tc) := cell_of hL.g 6
      clear hfx hlives hl hle hown
      have hFB := hL.bel
      have hLp := hL.p
      have hLg := hL.g
      have hLj := hL.j
      have hgT := (hL.own.lt gT rfl)
      have hHL := Lib.hid hL
      clear hL
      cases inn with
      | false =>
        go_wp2_with (guard_target =~ wpList _ _ _ (_ :: _) _ _; first
          | (refine wpList_store_row rfl (.tmp 9) (.tmp 87) 58 rfl (w.heap.size + 1 + 1) 0 58 _ _ (jCells (some ⟨gT, 0, none⟩) k tc 0) rfl rfl hLj (by kernel_rfl) (Nat.le_refl 10) rfl rfl ?_
             intro w1 hJ1 hW1
             have hP1 := (hW1.other w.heap.size (by omega)).trans hLp)
          | refine wpList_load_row rfl (.tmp 7) 30 rfl w.heap.size 30 (pCells false) _ rfl hP1 Tryz.underlying30 rfl (by kernel_rfl) ?_
          | refine wpList_load_row rfl (.tmp 9) 58 rfl (w.heap.size + 1 + 1) 58 (jCells (some ⟨gT, 0, none⟩) k tc 0) _ rfl hJ1 Tryz.underlying58 rfl (by kernel_rfl) ?_)
        have hk1 : k < wr.heap.size ∨ True := .inr trivial
        have hjs : w.heap.size + 1 + 1 < wr.heap.size := (Array.getElem?_eq_some_iff.1 hLj).1
        have hsl : ∀ i, i ≠ w.heap.size + 1 + 1 → w1.heap[i]? = wr.heap[i]? := fun i hi => hW1.other i hi
        have hA1 : Sls w1 (some ⟨gT, 0, none⟩) (cuts ls).length tc (vs.map cutV) := by
          rw [hcl]
          exact hA.on (X := fun i => i = gT) (.inr ⟨_, rfl, rfl⟩) (fun i hi => hW1.other i (by subst hi; omega))
        have hB1 : B8s w1 (vs.map cutV) (cuts ls) := ⟨hB.1, fun j v b hj hb => by
          obtain ⟨A, n, c, e, hu, hn⟩ := hB.2 j v b hj hb
          subst e
          exact ⟨A, n, c, rfl, u8_to hu ((HFX.out j A n c hj).imp id fun ⟨a, e, h⟩ a' e' => by rw [e] at e'; cases e'; exact hW1.other _ (by omega)), hn⟩⟩
        have hbg := beg_out (some ⟨gT, 0, none⟩) k tc (vs.map cutV) (cuts ls) w1 hcl (.inr ⟨_, _, rfl⟩) hA1 hB1 (by omega) (cuts_le ls)
        refine hbg.mono ?_
        clear hbg hsl hk1
        rintro e wB ⟨PA, pc, rfl, hbB, hpk⟩
        rw [hcl] at hpk ⊢
        go_wp2_with (guard_target =~ wpList _ _ _ (_ :: _) _ _; first
          | (refine wpList_store_row rfl (.tmp 12) (.tmp 92) 54 rfl wB.heap.size 0 54 _ (isoV false PA k pc 0 k none 0 0 none 0 0 0) (isoV false PA k pc 0 k none 0 0 none 0 0 0) rfl rfl (heap_alloc_new wB _) (by kernel_rfl) (Nat.le_refl 47) rfl (row_same rfl) ?_
             intro wC hWC hWC2))
        go_upto_region 17 with fail
        have hbBC : Below wB.heap.size wB wC := ((Below.refl _ wB).alloc (Nat.le_refl _) _).trans (hWC2.below (Nat.le_refl _))
        have hs1 : w1.heap.size = wr.heap.size := hW1.size
        have hkC : ∀ i, i < wr.heap.size → i ≠ w.heap.size + 1 + 1 → wC.heap[i]? = wr.heap[i]? := fun i hi hne => (hbBC.block i (by have := hbB.size; omega)).trans ((hbB.block i (by omega)).trans (hW1.other i hne))
        have hsC : wr.heap.size ≤ wC.heap.size := by have := hbB.size; have := hbBC.size; omega
        have hbC : Below w.heap.size w wC := (((hFB.trans (hW1.below (by omega))).trans (hbB.mono (by have := hFB.size; omega))).trans (hbBC.mono (by have := hFB.size; have := hbB.size; omega)))
        have hS : Start (kOf false (some ⟨gT, 0, none⟩) k tc (vs.map cutV) (cuts ls)) (w.heap.size + 1) wC :=
          ⟨by omega, (hkC _ (by omega) (by omega)).trans hLg, ⟨(D8.nil wC no).1, hA.on (X := fun i => i = gT) (.inr ⟨_, rfl, rfl⟩) (fun i hi => hkC i (by subst hi; omega) (by subst hi; omega)),
            ⟨hB.1, fun j v b hj hb => by
              obtain ⟨A, n, c, e, hu, hn⟩ := hB.2 j v b hj hb
              subst e
              exact ⟨A, n, c, rfl, u8_to hu ((HFX.out j A n c hj).imp id fun ⟨a, e, h⟩ a' e' => by rw [e] at e'; cases e'; exact hkC _ (by omega) (by omega)), hn⟩⟩,
            .inl rfl, .inr ⟨_, rfl, by show gT < _; omega, by show gT ≠ _; omega⟩, fun j A n c hj => (HFX.out j A n c hj).imp id fun ⟨a, e, h⟩ => ⟨a, e, by omega, by omega⟩⟩, rfl, rfl, cuts_le ls⟩
        have htyC : ∀ i, TyOn wB i → wC.heap[i]? = wB.heap[i]? := fun i ⟨cs, t', h7, _⟩ => hbBC.block i (Array.getElem?_eq_some_iff.1 h7).1
        have hpkC : PkOn (TyOn wC) wC PA k pc (cuts ls) := (hpk.on htyC).wide fun i hi => by
          obtain ⟨cs, t', h7, h8⟩ := id hi
          exact ⟨cs, t', (htyC i hi).trans h7, h8⟩
        refine r17 (K := kOf false (some ⟨gT, 0, none⟩) k tc (vs.map cutV) (cuts ls)) (Fin := FinOut (cuts ls) k (fs.map faultOf)) (G := w.heap.size + 1) (bW := wB.heap.size) (by kernel_rfl) rfl
          ⟨_, rfl, rfl, rfl, rfl, by kernel_rfl⟩ ⟨_, rfl, rfl, rfl, rfl, by kernel_rfl⟩ ⟨_, rfl, rfl, rfl, rfl, by kernel_rfl⟩ ⟨_, rfl, rfl, rfl, rfl, by kernel_rfl⟩ ⟨_, rfl, rfl, rfl, rfl, by kernel_rfl⟩ ⟨_, rfl, rfl, rfl, rfl, by kernel_rfl⟩ ⟨_, rfl, rfl, rfl, rfl, by kernel_rfl⟩ ⟨_, rfl, rfl, rfl, rfl, by kernel_rfl⟩ ⟨_, rfl, rfl, rfl, rfl, by kernel_rfl⟩ ⟨_, rfl, rfl, rfl, rfl, by kernel_rfl⟩ ⟨_, rfl, rfl, rfl, rfl, by kernel_rfl⟩ ⟨_, rfl, rfl, rfl, rfl, by kernel_rfl⟩ ⟨_, rfl, rfl, rfl, rfl, by kernel_rfl⟩ ⟨_, rfl, rfl, rfl, rfl, by kernel_rfl⟩ ⟨_, rfl, rfl, rfl, rfl, by kernel_rfl⟩ ⟨_, rfl, rfl, rfl, rfl, by kernel_rfl⟩ ⟨_, rfl, rfl, rfl, rfl, by kernel_rfl⟩ ⟨_, rfl, rfl, rfl, rfl, by kernel_rfl⟩ ⟨_, rfl, rfl, rfl, rfl, by kernel_rfl⟩
          rfl rfl rfl rfl rfl hWC (by have := hbB.size; omega) rfl (hf.below hbC) (by omega) rfl (by omega) hS.lt (fun w' bs L R h => run_out_c hS rfl hcl (by omega) hpkC h) ?_
        intro a w2 tot g A B hF h14 h15 h16 hP3 hne
        rw [hF.puts]
        simp only [List.foldl_cons, List.foldl_nil, h14, h15, h16]
        generalize a.eval (.tmp 97) = x97
        generalize a.eval (.tmp 98) = x98
        generalize a.eval (.tmp 99) = x99
        generalize a.eval (.tmp 100) = x100
        generalize a.eval (.tmp 101) = x101
        generalize a.eval (.tmp 102) = x102
        generalize a.eval (.tmp 103) = x103
        generalize a.eval (.tmp 104) = x104
        generalize a.eval (.tmp 105) = x105
        generalize a.eval (.tmp 106) = x106
        generalize a.eval (.tmp 96) = x96
        generalize a.eval (.tmp 107) = x107
        generalize a.eval (.tmp 108) = x108
        generalize a.eval (.tmp 109) = x109
        simp only [Act.put, List.setIfInBounds_toArray, List.set_cons_succ, List.set_cons_zero]
        have hGw := hS.lt
        have hk2 := hP3.1
        have hW2 := hk2.heap hWC (by have := hbB.size; omega)
        have hpC : wC.heap[w.heap.size]? = some (.cells (pCells false) 30 (0, 0)) := (hkC _ (by omega) (by omega)).trans hLp
        have hp2 := hk2.heap hpC (by omega)
        have hsub : IntKind.i64.wrap ((k : Int) - 1) = ((k - 1 : Nat) : Int) := by rw [IntWalk.i64_in _ (by omega)]; omega
        have htyG : ∀ i, TyOn wC i → i < wC.heap.size ∧ i ≠ w.heap.size + 1 := fun i ⟨cs, t', h7, h8⟩ => ⟨(Array.getElem?_eq_some_iff.1 h7).1, fun e => by
          subst e
          rw [hS.box] at h7
          injection h7 with h7
          injection h7 with _ h7
          subst h7
          rcases h8 with h8 | h8 <;> exact absurd h8 (by decide)⟩
        have HTG := Lib.hid htyG
        clear hkC htyC htyG
        go_wp2_with (guard_target =~ wpList _ _ _ (_ :: _) _ _; first
          | refine wpList_load_row rfl (.tmp 12) 54 rfl wB.heap.size 54 (isoV false PA k pc 0 k none 0 0 none 0 0 0) _ rfl hW2 Tryz.underlying54 rfl (by kernel_rfl) ?_)
        have hb23 := (Below.refl w2.heap.size w2).alloc (Nat.le_refl _) (.cells (grCells (kOf false none 0 0 [] []) (.slice none 0 0) s00) 34 (0, 0))
        refine (run2_out_c (X := TyOn wC) (heap_alloc_new w2 _) hcl (by omega) (cuts_le ls) ((hpkC.on fun i hi => hk2.block i (HTG.out i hi).1 (HTG.out i hi).2).on fun i hi => hb23.block i (by have := (HTG.out i hi).1; have := hk2.size; omega)) (fun i hi => by have := (HTG.out i hi).1; have := hk2.size; simp; omega)).mono ?_
        rintro e w3 ⟨V2, rfl, hN, hk3⟩
        go_wp2_with fail
        refine (end2_c hN w3).mono ?_
        rintro e w4 ⟨hb4, rfl⟩
        have hsz3 := hk3.size
        have hsz23 : w2.heap.size + 1 ≤ w3.heap.size := by simpa using hsz3
        have hl4 : ∀ (g : Nat) o, w2.heap[g]? = some o → w4.heap[g]? = some o := fun g o h => by
          have hlt := (Array.getElem?_eq_some_iff.1 h).1
          exact heap_below (hk3.heap (heap_below h hb23) (by omega)) hb4
        have hA4 := hl4 _ _ hP3.box0
        have hB4 := hl4 _ _ hP3.box1
        have hp4 := hl4 _ _ hp2
        obtain ⟨_, _, _, _, s, us, ⟨_, rfl, htk, htn⟩, ⟨A', c', hGf⟩, _⟩ := hP3
        have hG4 := hl4 _ _ hGf
        have hbw4 : Below w.heap.size w w4 := ((hbC.trans (hk2.to (by omega) (by omega))).trans ((hb23.mono (by have := hk2.size; omega)))).trans ((hk3.to (by have := hk2.size; simp; omega) (by have := hk2.size; omega)).trans (hb4.mono (by have := hk2.size; omega)))
        clear hl4 hk3 hk2 hGf hW2 hp2 hpC hWC hN
        have q5 : (s.taken.length : Int) ≤ (sumTo (cuts ls) k : Int) := by omega
        have hfl := hf.1
        rcases Nat.eq_zero_or_pos fn with hf0 | hf0
        · subst hf0
          have hfs : fs = [] := List.length_eq_zero_iff.1 hfl
          have hq := htn (by rw [hfs]; rfl)
          rw [hq] at hG4
          clear hq htn htk q5 hfl
          go_wp2_with (guard_target =~ wpList _ _ _ (_ :: _) _ _; first
            | (refine wpList_store_row rfl (.tmp 17) (.tmp 121) 60 rfl w4.heap.size 0 60 _ z4 z4 rfl rfl (alloc2_0 w4 _ _) (by kernel_rfl) (Nat.le_refl 4) rfl (row_same rfl) ?_
               intro w5 hr5 hW5
               have hq5 := (hW5.other (w4.heap.size + 1) (by omega)).trans (alloc2_1 w4 _ _))
            | (refine wpList_store_row rfl (.tmp 18) (.tmp 122) 30 rfl (w4.heap.size + 1) 0 30 _ z11 z11 rfl rfl hq5 (by kernel_rfl) (Nat.le_refl 11) rfl (row_same rfl) ?_
               intro w6 hr6 hW6
               have hb6 := two_more hW5 hW6
               have hA6 := heap_below hA4 hb6
               have hB6 := heap_below hB4 hb6
               have hp6 := heap_below hp4 hb6
               have hG6 := heap_below hG4 hb6
               have z0 : w6.cell? ⟨A, 0, none⟩ = some (.int .i64 0) := cell_of hA6 0
               have z1 : w6.cell? ⟨A, 1, none⟩ = some (.slice none 0 0) := cell_of hA6 1
               have z2 : w6.cell? ⟨A, 2, none⟩ = some (.int .i64 (sumTo (cuts ls) k : Int)) := cell_of hA6 2
               have z3 : w6.cell? ⟨A, 3, none⟩ = some (.slice (some ⟨g, 0, none⟩) k k) := cell_of hA6 3
               have g10 : w6.cell? ⟨w.heap.size + 1, 10, none⟩ = some (.slice A' (sumTo (cuts ls) k) c') := cell_of hG6 10
               have y0 : w6.cell? ⟨B, 0, none⟩ = some (.int .u8 5) := cell_of hB6 0
               have x0 : w6.cell? ⟨w.heap.size, 0, none⟩ = some (.int .u8 5) := cell_of hp6 0
               have y1 : w6.cell? ⟨B, 1, none⟩ = some (.int .u8 2) := cell_of hB6 1
               have x1 : w6.cell? ⟨w.heap.size, 1, none⟩ = some (.int .u8 2) := cell_of hp6 1
               have y2 : w6.cell? ⟨B, 2, none⟩ = some (.bool false) := cell_of hB6 2
               have x2 : w6.cell? ⟨w.heap.size, 2, none⟩ = some (.bool false) := cell_of hp6 2
               have y3 : w6.cell? ⟨B, 3, none⟩ = some (.int .u8 1) := cell_of hB6 3
               have x3 : w6.cell? ⟨w.heap.size, 3, none⟩ = some (.int .u8 1) := cell_of hp6 3
               have y4 : w6.cell? ⟨B, 4, none⟩ = some (.int .i64 8) := cell_of hB6 4
               have x4 : w6.cell? ⟨w.heap.size, 4, none⟩ = some (.int .i64 8) := cell_of hp6 4
               have y5 : w6.cell? ⟨B, 5, none⟩ = some (.int .i64 8) := cell_of hB6 5
               have x5 : w6.cell? ⟨w.heap.size, 5, none⟩ = some (.int .i64 8) := cell_of hp6 5
               have y6 : w6.cell? ⟨B, 6, none⟩ = some (.int .u8 1) := cell_of hB6 6
               have x6 : w6.cell? ⟨w.heap.size, 6, none⟩ = some (.int .u8 1) := cell_of hp6 6
               have y7 : w6.cell? ⟨B, 7, none⟩ = some (.int .u8 0) := cell_of hB6 7
               have x7 : w6.cell? ⟨w.heap.size, 7, none⟩ = some (.int .u8 0) := cell_of hp6 7
               have y8 : w6.cell? ⟨B, 8, none⟩ = some (.int .u8 1) := cell_of hB6 8
               have x8 : w6.cell? ⟨w.heap.size, 8, none⟩ = some (.int .u8 1) := cell_of hp6 8
               have y9 : w6.cell? ⟨B, 9, none⟩ = some (.bool false) := cell_of hB6 9
               have x9 : w6.cell? ⟨w.heap.size, 9, none⟩ = some (.bool false) := cell_of hp6 9
               have y10 : w6.cell? ⟨B, 10, none⟩ = some (.bool false) := cell_of hB6 10
               have x10 : w6.cell? ⟨w.heap.size, 10, none⟩ = some (.bool false) := cell_of hp6 10))
          refine (HLI.out w6 (hbw4.trans (hb6.mono hbw4.size))).mono ?_
          rintro e w7 ⟨rfl, hb7⟩
          go_wp2_with fail
          go_ret
          exact ⟨rfl, (hbw4.trans (hb6.mono hbw4.size)).trans (hb7.mono (Nat.le_trans hbw4.size hb6.size))⟩
        · have q6 : (0 : Int) < (fn : Int) := by omega
          clear htn htk hfl
          go_wp2_with (guard_target =~ wpList _ _ _ (_ :: _) _ _; first
            | (refine wpList_store_row rfl (.tmp 17) (.tmp 121) 60 rfl w4.heap.size 0 60 _ z4 z4 rfl rfl (alloc2_0 w4 _ _) (by kernel_rfl) (Nat.le_refl 4) rfl (row_same rfl) ?_
               intro w5 hr5 hW5
               have hq5 := (hW5.other (w4.heap.size + 1) (by omega)).trans (alloc2_1 w4 _ _))
            | (refine wpList_store_row rfl (.tmp 18) (.tmp 122) 30 rfl (w4.heap.size + 1) 0 30 _ z11 z11 rfl rfl hq5 (by kernel_rfl) (Nat.le_refl 11) rfl (row_same rfl) ?_
               intro w6 hr6 hW6
               have hb6 := two_more hW5 hW6
               have hA6 := heap_below hA4 hb6
               have hB6 := heap_below hB4 hb6
               have hp6 := heap_below hp4 hb6
               have hG6 := heap_below hG4 hb6
               have z0 : w6.cell? ⟨A, 0, none⟩ = some (.int .i64 0) := cell_of hA6 0
               have z1 : w6.cell? ⟨A, 1, none⟩ = some (.slice none 0 0) := cell_of hA6 1
               have z2 : w6.cell? ⟨A, 2, none⟩ = some (.int .i64 (sumTo (cuts ls) k : Int)) := cell_of hA6 2
               have z3 : w6.cell? ⟨A, 3, none⟩ = some (.slice (some ⟨g, 0, none⟩) k k) := cell_of hA6 3
               have g10 : w6.cell? ⟨w.heap.size + 1, 10, none⟩ = some (.slice A' s.taken.length c') := cell_of hG6 10
               have y0 : w6.cell? ⟨B, 0, none⟩ = some (.int .u8 5) := cell_of hB6 0
               have x0 : w6.cell? ⟨w.heap.size, 0, none⟩ = some (.int .u8 5) := cell_of hp6 0
               have y1 : w6.cell? ⟨B, 1, none⟩ = some (.int .u8 2) := cell_of hB6 1
               have x1 : w6.cell? ⟨w.heap.size, 1, none⟩ = some (.int .u8 2) := cell_of hp6 1
               have y2 : w6.cell? ⟨B, 2, none⟩ = some (.bool false) := cell_of hB6 2
               have x2 : w6.cell? ⟨w.heap.size, 2, none⟩ = some (.bool false) := cell_of hp6 2
               have y3 : w6.cell? ⟨B, 3, none⟩ = some (.int .u8 1) := cell_of hB6 3
               have x3 : w6.cell? ⟨w.heap.size, 3, none⟩ = some (.int .u8 1) := cell_of hp6 3
               have y4 : w6.cell? ⟨B, 4, none⟩ = some (.int .i64 8) := cell_of hB6 4
               have x4 : w6.cell? ⟨w.heap.size, 4, none⟩ = some (.int .i64 8) := cell_of hp6 4
               have y5 : w6.cell? ⟨B, 5, none⟩ = some (.int .i64 8) := cell_of hB6 5
               have x5 : w6.cell? ⟨w.heap.size, 5, none⟩ = some (.int .i64 8) := cell_of hp6 5
               have y6 : w6.cell? ⟨B, 6, none⟩ = some (.int .u8 1) := cell_of hB6 6
               have x6 : w6.cell? ⟨w.heap.size, 6, none⟩ = some (.int .u8 1) := cell_of hp6 6
               have y7 : w6.cell? ⟨B, 7, none⟩ = some (.int .u8 0) := cell_of hB6 7
               have x7 : w6.cell? ⟨w.heap.size, 7, none⟩ = some (.int .u8 0) := cell_of hp6 7
               have y8 : w6.cell? ⟨B, 8, none⟩ = some (.int .u8 1) := cell_of hB6 8
               have x8 : w6.cell? ⟨w.heap.size, 8, none⟩ = some (.int .u8 1) := cell_of hp6 8
               have y9 : w6.cell? ⟨B, 9, none⟩ = some (.bool false) := cell_of hB6 9
               have x9 : w6.cell? ⟨w.heap.size, 9, none⟩ = some (.bool false) := cell_of hp6 9
               have y10 : w6.cell? ⟨B, 10, none⟩ = some (.bool false) := cell_of hB6 10
               have x10 : w6.cell? ⟨w.heap.size, 10, none⟩ = some (.bool false) := cell_of hp6 10))
          refine (HLI.out w6 (hbw4.trans (hb6.mono hbw4.size))).mono ?_
          rintro e w7 ⟨rfl, hb7⟩
          go_wp2_with fail
          go_ret
          exact ⟨rfl, (hbw4.trans (hb6.mono hbw4.size)).trans (hb7.mono (Nat.le_trans hbw4.size hb6.size))⟩
      | true =>
        have hjs : w.heap.size + 1 + 1 < wr.heap.size := (Array.getElem?_eq_some_iff.1 hLj).1
        go_wp2_with (guard_target =~ wpList _ _ _ (_ :: _) _ _; first
          | refine wpList_load_row rfl (.tmp 7) 30 rfl w.heap.size 30 (pCells true) _ rfl hLp Tryz.underlying30 rfl (by kernel_rfl) ?_
          | refine wpList_load_row rfl (.tmp 9) 58 rfl (w.heap.size + 1 + 1) 58 (jCells none 0 0 (k : Int)) _ rfl hLj Tryz.underlying58 rfl (by kernel_rfl) ?_)
        refine (beg_in k wr (by omega)).mono ?_
        rintro e wB ⟨rfl, hbB⟩
        go_wp2_with (guard_target =~ wpList _ _ _ (_ :: _) _ _; first
          | (refine wpList_store_row rfl (.tmp 12) (.tmp 92) 54 rfl wB.heap.size 0 54 _ (isoV true none 0 0 (k : Int) k none 0 0 none 0 0 0) (isoV true none 0 0 (k : Int) k none 0 0 none 0 0 0) rfl rfl (heap_alloc_new wB _) (by kernel_rfl) (Nat.le_refl 47) rfl (row_same rfl) ?_
             intro wC hWC hWC2))
        go_upto_region 17 with fail
        have hbBC : Below wB.heap.size wB wC := ((Below.refl _ wB).alloc (Nat.le_refl _) _).trans (hWC2.below (Nat.le_refl _))
        have hkC : ∀ i, i < wr.heap.size → wC.heap[i]? = wr.heap[i]? := fun i hi => (hbBC.block i (by have := hbB.size; omega)).trans (hbB.block i (by omega))
        have hsC : wr.heap.size ≤ wC.heap.size := by have := hbB.size; have := hbBC.size; omega
        have hbC : Below w.heap.size w wC := ((hFB.trans (hbB.mono (by have := hFB.size; omega))).trans (hbBC.mono (by have := hFB.size; have := hbB.size; omega)))
        have hAC : Sls wC (some ⟨gT, 0, none⟩) k tc (vs.map cutV) := hA.on (X := fun i => i = gT) (.inr ⟨_, rfl, rfl⟩) (fun i hi => hkC i (by subst hi; omega))
        have hBC : B8s wC (vs.map cutV) (cuts ls) := ⟨hB.1, fun j v b hj hb => by
          obtain ⟨A, n, c, e, hu, hn⟩ := hB.2 j v b hj hb
          subst e
          exact ⟨A, n, c, rfl, u8_to hu ((HFX.out j A n c hj).imp id fun ⟨a, e, h⟩ a' e' => by rw [e] at e'; cases e'; exact hkC _ (by omega)), hn⟩⟩
        have hS : Start (kOf true (some ⟨gT, 0, none⟩) k tc (vs.map cutV) (cuts ls)) (w.heap.size + 1) wC :=
          ⟨by omega, (hkC _ (by omega)).trans hLg, ⟨(D8.nil wC no).1, hAC, hBC,
            .inl rfl, .inr ⟨_, rfl, by show gT < _; omega, by show gT ≠ _; omega⟩, fun j A n c hj => (HFX.out j A n c hj).imp id fun ⟨a, e, h⟩ => ⟨a, e, by omega, by omega⟩⟩, rfl, rfl, cuts_le ls⟩
        refine r17 (K := kOf true (some ⟨gT, 0, none⟩) k tc (vs.map cutV) (cuts ls)) (Fin := FinIn (cuts ls) k (fs.map faultOf)) (G := w.heap.size + 1) (bW := wB.heap.size) (by kernel_rfl) rfl
          ⟨_, rfl, rfl, rfl, rfl, by kernel_rfl⟩ ⟨_, rfl, rfl, rfl, rfl, by kernel_rfl⟩ ⟨_, rfl, rfl, rfl, rfl, by kernel_rfl⟩ ⟨_, rfl, rfl, rfl, rfl, by kernel_rfl⟩ ⟨_, rfl, rfl, rfl, rfl, by kernel_rfl⟩ ⟨_, rfl, rfl, rfl, rfl, by kernel_rfl⟩ ⟨_, rfl, rfl, rfl, rfl, by kernel_rfl⟩ ⟨_, rfl, rfl, rfl, rfl, by kernel_rfl⟩ ⟨_, rfl, rfl, rfl, rfl, by kernel_rfl⟩ ⟨_, rfl, rfl, rfl, rfl, by kernel_rfl⟩ ⟨_, rfl, rfl, rfl, rfl, by kernel_rfl⟩ ⟨_, rfl, rfl, rfl, rfl, by kernel_rfl⟩ ⟨_, rfl, rfl, rfl, rfl, by kernel_rfl⟩ ⟨_, rfl, rfl, rfl, rfl, by kernel_rfl⟩ ⟨_, rfl, rfl, rfl, rfl, by kernel_rfl⟩ ⟨_, rfl, rfl, rfl, rfl, by kernel_rfl⟩ ⟨_, rfl, rfl, rfl, rfl, by kernel_rfl⟩ ⟨_, rfl, rfl, rfl, rfl, by kernel_rfl⟩ ⟨_, rfl, rfl, rfl, rfl, by kernel_rfl⟩
          rfl rfl rfl rfl rfl hWC (by have := hbB.size; omega) rfl (hf.below hbC) (by omega) rfl (by omega) hS.lt (fun w' bs L R h => run_in_c hS rfl rfl (by omega) h) ?_
        intro a w2 tot g A B hF h14 h15 h16 hP3 hne
        rw [hF.puts]
        simp only [List.foldl_cons, List.foldl_nil, h14, h15, h16]
        generalize a.eval (.tmp 97) = x97
        generalize a.eval (.tmp 98) = x98
        generalize a.eval (.tmp 99) = x99
        generalize a.eval (.tmp 100) = x100
        generalize a.eval (.tmp 101) = x101
        generalize a.eval (.tmp 102) = x102
        generalize a.eval (.tmp 103) = x103
        generalize a.eval (.tmp 104) = x104
        generalize a.eval (.tmp 105) = x105
        generalize a.eval (.tmp 106) = x106
        generalize a.eval (.tmp 96) = x96
        generalize a.eval (.tmp 107) = x107
        generalize a.eval (.tmp 108) = x108
        generalize a.eval (.tmp 109) = x109
        simp only [Act.put, List.setIfInBounds_toArray, List.set_cons_succ, List.set_cons_zero]
        have hGw := hS.lt
        have hk2 := hP3.1
        have hW2 := hk2.heap hWC (by have := hbB.size; omega)
        have hpC : wC.heap[w.heap.size]? = some (.cells (pCells true) 30 (0, 0)) := (hkC _ (by omega)).trans hLp
        have hp2 := hk2.heap hpC (by omega)
        have hsub : IntKind.i64.wrap ((k : Int) - 1) = ((k - 1 : Nat) : Int) := by rw [IntWalk.i64_in _ (by omega)]; omega
        clear hkC
        go_wp2_with (guard_target =~ wpList _ _ _ (_ :: _) _ _; first
          | refine wpList_load_row rfl (.tmp 12) 54 rfl wB.heap.size 54 (isoV true none 0 0 (k : Int) k none 0 0 none 0 0 0) _ rfl hW2 Tryz.underlying54 rfl (by kernel_rfl) ?_)
        have hb23 := (Below.refl w2.heap.size w2).alloc (Nat.le_refl _) (.cells (grCells (kOf true none 0 0 [] []) (.slice none 0 0) s00) 34 (0, 0))
        refine (run2_in_c (heap_alloc_new w2 _) (by omega)).mono ?_
        rintro e w3 ⟨V2, rfl, hN, hk3⟩
        go_wp2_with fail
        refine (end2_c hN w3).mono ?_
        rintro e w4 ⟨hb4, rfl⟩
        have hsz3 := hk3.size
        have hsz23 : w2.heap.size + 1 ≤ w3.heap.size := by simpa using hsz3
        have hl4 : ∀ (g : Nat) o, w2.heap[g]? = some o → w4.heap[g]? = some o := fun g o h => by
          have hlt := (Array.getElem?_eq_some_iff.1 h).1
          exact heap_below (hk3.heap (heap_below h hb23) (by omega)) hb4
        have hA4 := hl4 _ _ hP3.box0
        have hB4 := hl4 _ _ hP3.box1
        have hp4 := hl4 _ _ hp2
        obtain ⟨_, _, er, d, s, us, hFin, ⟨A', c', hGf⟩, hPc, hPd, hgs, hgl, _, hdl, htot⟩ := hP3
        have hG4 := hl4 _ _ hGf
        have hPc4 : Pcs w4 (some ⟨g, 0, none⟩) k k us := hPc.to (.inr fun a ea => by
          cases ea
          obtain ⟨o, ho⟩ : ∃ o, w2.heap[g]? = some o := ⟨_, Array.getElem?_eq_getElem hgl⟩
          rw [ho]; exact hl4 _ _ ho)
        have hPd4 : PcsD w4 us k er d := hPd.below fun j o ho _ => hl4 j o ho
        have hup : ∀ i, i < wC.heap.size → i ≠ w.heap.size + 1 → w4.heap[i]? = wC.heap[i]? := fun i hi hne => by
          obtain ⟨o, ho⟩ : ∃ o, w2.heap[i]? = some o := ⟨_, Array.getElem?_eq_getElem (by have := hk2.size; omega)⟩
          rw [hl4 _ _ ho, ← ho]; exact hk2.block i hi hne
        have hA44 : Sls w4 (some ⟨gT, 0, none⟩) k tc (vs.map cutV) := hAC.on (X := fun i => i = gT) (.inr ⟨_, rfl, rfl⟩) (fun i hi => hup i (by subst hi; omega) (by subst hi; omega))
        have hB44 : B8s w4 (vs.map cutV) (cuts ls) := ⟨hBC.1, fun j v b hj hb => by
          obtain ⟨A, n, c, e, hu, hn⟩ := hBC.2 j v b hj hb
          subst e
          exact ⟨A, n, c, rfl, u8_to hu ((HFX.out j A n c hj).imp id fun ⟨a, e, h⟩ a' e' => by rw [e] at e'; cases e'; exact hup _ (by omega) (by omega)), hn⟩⟩
        have hbw4 : Below w.heap.size w w4 := ((hbC.trans (hk2.to (by omega) (by omega))).trans ((hb23.mono (by have := hk2.size; omega)))).trans ((hk3.to (by have := hk2.size; simp; omega) (by have := hk2.size; omega)).trans (hb4.mono (by have := hk2.size; omega)))
        clear hl4 hup hk3 hk2 hGf hW2 hp2 hpC hWC hN
        have hfl := hf.1
        have hFin' := Lib.hid hFin
        clear hFin
        go_wp2_with (guard_target =~ wpList _ _ _ (_ :: _) _ _; first
          | (refine wpList_store_row rfl (.tmp 17) (.tmp 121) 60 rfl w4.heap.size 0 60 _ z4 z4 rfl rfl (alloc2_0 w4 _ _) (by kernel_rfl) (Nat.le_refl 4) rfl (row_same rfl) ?_
             intro w5 hr5 hW5
             have hq5 := (hW5.other (w4.heap.size + 1) (by omega)).trans (alloc2_1 w4 _ _))
          | (refine wpList_store_row rfl (.tmp 18) (.tmp 122) 30 rfl (w4.heap.size + 1) 0 30 _ z11 z11 rfl rfl hq5 (by kernel_rfl) (Nat.le_refl 11) rfl (row_same rfl) ?_
             intro w6 hr6 hW6
             have hb6 := two_more hW5 hW6
             have hA6 := heap_below hA4 hb6
             have hB6 := heap_below hB4 hb6
             have hp6 := heap_below hp4 hb6
             have hG6 := heap_below hG4 hb6
             have z0 : w6.cell? ⟨A, 0, none⟩ = some (.int .i64 0) := cell_of hA6 0
             have z1 : w6.cell? ⟨A, 1, none⟩ = some (.slice none 0 0) := cell_of hA6 1
             have z2 : w6.cell? ⟨A, 2, none⟩ = some (.int .i64 tot) := cell_of hA6 2
             have z3 : w6.cell? ⟨A, 3, none⟩ = some (.slice (some ⟨g, 0, none⟩) k k) := cell_of hA6 3
             have g6 : w6.cell? ⟨w.heap.size + 1, 6, none⟩ = some (.slice (some ⟨gT, 0, none⟩) k tc) := cell_of hG6 6
             have y0 : w6.cell? ⟨B, 0, none⟩ = some (.int .u8 5) := cell_of hB6 0
             have x0 : w6.cell? ⟨w.heap.size, 0, none⟩ = some (.int .u8 5) := cell_of hp6 0
             have y1 : w6.cell? ⟨B, 1, none⟩ = some (.int .u8 2) := cell_of hB6 1
             have x1 : w6.cell? ⟨w.heap.size, 1, none⟩ = some (.int .u8 2) := cell_of hp6 1
             have y2 : w6.cell? ⟨B, 2, none⟩ = some (.bool true) := cell_of hB6 2
             have x2 : w6.cell? ⟨w.heap.size, 2, none⟩ = some (.bool true) := cell_of hp6 2
             have y3 : w6.cell? ⟨B, 3, none⟩ = some (.int .u8 1) := cell_of hB6 3
             have x3 : w6.cell? ⟨w.heap.size, 3, none⟩ = some (.int .u8 1) := cell_of hp6 3
             have y4 : w6.cell? ⟨B, 4, none⟩ = some (.int .i64 8) := cell_of hB6 4
             have x4 : w6.cell? ⟨w.heap.size, 4, none⟩ = some (.int .i64 8) := cell_of hp6 4
             have y5 : w6.cell? ⟨B, 5, none⟩ = some (.int .i64 8) := cell_of hB6 5
             have x5 : w6.cell? ⟨w.heap.size, 5, none⟩ = some (.int .i64 8) := cell_of hp6 5
             have y6 : w6.cell? ⟨B, 6, none⟩ = some (.int .u8 1) := cell_of hB6 6
             have x6 : w6.cell? ⟨w.heap.size, 6, none⟩ = some (.int .u8 1) := cell_of hp6 6
             have y7 : w6.cell? ⟨B, 7, none⟩ = some (.int .u8 0) := cell_of hB6 7
             have x7 : w6.cell? ⟨w.heap.size, 7, none⟩ = some (.int .u8 0) := cell_of hp6 7
             have y8 : w6.cell? ⟨B, 8, none⟩ = some (.int .u8 1) := cell_of hB6 8
             have x8 : w6.cell? ⟨w.heap.size, 8, none⟩ = some (.int .u8 1) := cell_of hp6 8
             have y9 : w6.cell? ⟨B, 9, none⟩ = some (.bool false) := cell_of hB6 9
             have x9 : w6.cell? ⟨w.heap.size, 9, none⟩ = some (.bool false) := cell_of hp6 9
             have y10 : w6.cell? ⟨B, 10, none⟩ = some (.bool false) := cell_of hB6 10
             have x10 : w6.cell? ⟨w.heap.size, 10, none⟩ = some (.bool false) := cell_of hp6 10))
        clear x0 y0 x1 y1 x2 y2 x3 y3 x4 y4 x5 y5 x6 y6 x7 y7 x8 y8 x9 y9 x10 y10 z0 z1
        obtain ⟨nx, hnx0, hnx, hnof, rfl⟩ := hFin'.out
        have HNX := Lib.hid hnx
        have HNO := Lib.hid hnof
        have hPc6 : Pcs w6 (some ⟨g, 0, none⟩) k k us := hPc4.to (hPc4.lt.imp id fun hl a ea => hb6.block _ (hl a ea))
        have hPd6 : PcsD w6 us k er d := hPd4.below fun j o ho _ => heap_below ho hb6
        have hA66 := hA44.below hb6
        have hB66 := hB44.below hb6
        have hpcell : ∀ (j : Nat) v, us[j]? = some v → w6.cell? ⟨g, j, none⟩ = some v := fun j v hj => by
          obtain ⟨a, ea, h⟩ := hPc6.cells (by omega)
          cases ea
          have := h j v hj
          rwa [show (⟨g, 0, none⟩ : Addr).add j = ⟨g, j, none⟩ by unfold Addr.add; split <;> simp_all] at this
        have HPC := Lib.hid hpcell
        have HPD := Lib.hid hPd6
        have hsum : ∀ j, j < k → sumTo ((List.range k).map d) (j + 1) = sumTo ((List.range k).map d) j + (d j).length := fun j hj => by
          rw [sumTo_succ, List.getElem?_map, List.getElem?_range hj]; rfl
        have HSU := Lib.hid hsum
        have hsb : ∀ j, j ≤ k → sumTo ((List.range k).map d) j ≤ 1024 * j := fun j => by
          induction j with
          | zero => intro _; rw [sumTo_zero]; omega
          | succ j ih => intro hj; have := ih (by omega); have := hdl j; rw [HSU.out j (by omega)]; omega
        have HSB := Lib.hid hsb
        clear hnx hnof hpcell hPd6 hsum hsb hPc4 hPd4 hPc hPd hA44 hB44 hA4 hB4 hp4 hG4 hA6 hB6 hp6 hG6 hr5 hW5 hq5 hr6 hW6 hdl
        go_loopw [20, 21, 22] (fun t sm i wr => ∃ (j av q : Nat), i = .int .i64 j ∧ t = .int .i64 av ∧ sm = .int .i64 (sumTo ((List.range k).map d) j : Int) ∧ j ≤ k ∧ av ≤ nx j ∧ wr = w6.drewN q) (fun _ _ i _ => k - (intOf i).toNat)
        case atStart => exact ⟨0, 0, 0, rfl, rfl, by rw [sumTo_zero]; rfl, by omega, by omega, rfl⟩
        case round =>
          obtain ⟨j, av, q, rfl, rfl, rfl, hj, hav, rfl⟩ := hrel
          by_cases hlt : j < k
          · have q7 : (j : Int) < (k : Int) := by omega
            obtain ⟨hn1, hn2, hn3⟩ := HNX.out j hlt
            obtain ⟨hu1, D, hu2, hDj⟩ := HPD.out.2 j hlt
            have ce := HPC.out _ _ hu1
            have cd := HPC.out _ _ hu2
            rw [show 2 * j = j * 2 by omega] at ce cd
            obtain ⟨AD, nD, cD, rfl, hDU⟩ : ∃ AD nD cD, D = .slice AD nD cD ∧ U8 w6 AD nD cD (d j) := by
              rcases hDj with ⟨rfl, h0⟩ | ⟨gD, cD, rfl, hF⟩
              · exact ⟨none, 0, 0, rfl, by rw [h0]; exact (D8.nil w6 no).1⟩
              · exact ⟨_, _, _, rfl, hF.u8⟩
            clear hDj hu1 hu2
            by_cases he : er j = 0
            · rw [he] at ce
              obtain ⟨hn4, hn5, hn6⟩ := hn3 he
              have HN4 := Lib.hid hn4
              have HN5 := Lib.hid hn5
              have HN6 := Lib.hid hn6
              have hdc : (d j).length = nD := hDU.1
              have HDC := Lib.hid hdc
              have hsj := HSB.out j hj
              have hdn : nD ≤ 1024 := by
                have := HSB.out (j + 1) (by omega)
                rw [HSU.out j hlt, hdc] at this
                have h8 := cuts_le ls
                rw [← hdc, hn6]
                cases hq : (cuts ls)[nx j]? with
                | none => simp
                | some b => have := h8 b (List.mem_of_getElem? hq); simp; omega
              have hwr : IntKind.i64.wrap ((sumTo ((List.range k).map d) j : Int) + (nD : Int)) = (sumTo ((List.range k).map d) j : Int) + (nD : Int) := IntWalk.i64_in _ (by omega)
              have t2 := hDU.text (P := Tryz.prog) (src := 23) (dst := 9) (e := 5) rfl rfl rfl
              clear hn1 hn2 hn3 hn4 hn5 hn6 he hdc
              go_wp2_with fail
              go_loopw [20] (fun t wr => ∃ (a2 q2 : Nat), t = .int .i64 a2 ∧ a2 ≤ nx j ∧ wr = w6.drewN q2) (fun t _ => nx j + 1 - (intOf t).toNat)
              case atStart => exact ⟨av, q, rfl, hav, rfl⟩
              case round =>
                obtain ⟨a2, q2, rfl, ha2, rfl⟩ := hrel
                have hak : a2 < k := by have := HN4.out; omega
                obtain ⟨a, Ak, nk, ck, b, ea, eb, hck, huk, hnk, hnc⟩ := hA66.elem hB66 hak
                cases ea
                rw [show (⟨gT, 0, none⟩ : Addr).add a2 = ⟨gT, a2, none⟩ by unfold Addr.add; split <;> simp_all] at hck
                have t1 := huk.text (P := Tryz.prog) (src := 23) (dst := 9) (e := 5) rfl rfl rfl
                have q8 : (a2 : Int) < (k : Int) := by omega
                have q9 : decide ((a2 : Int) < (k : Int)) = true := by simp; omega
                have HEB := Lib.hid eb
                have hbr := huk.2.1
                have hdr := hDU.2.1
                by_cases hbd : b = d j
                · subst hbd
                  have q10 : ((a2 : Int) == (k : Int)) = false := by simp; omega
                  clear eb hbr hdr huk
                  go_upto_region 30 with fail
                  go_quiet (fail)
                  go_wp2_with fail
                  refine ⟨⟨j + 1, a2 + 1, _, by go_num, by go_num, ?_, by omega, by rw [HN5.out]; omega, rfl⟩, by simp [intOf]; omega⟩
                  rw [HSU.out j hlt, HDC.out]
                  simp
                · have hst : ((strOfNums b).toList == (strOfNums (d j)).toList) = false := by
                    rw [beq_eq_false_iff_ne]
                    exact fun h => hbd (str_inj _ _ hbr hdr h)
                  have hlt2 : a2 < nx j := by
                    rcases Nat.lt_or_eq_of_le ha2 with h | h
                    · exact h
                    · exact absurd (by rw [HN6.out, ← h, eb]; rfl) hbd
                  clear eb hbr hdr huk hbd
                  go_upto_region 30 with fail
                  go_quiet (fail)
                  go_wp2_with fail
                  exact ⟨⟨a2 + 1, _, by go_num, by omega, rfl⟩, by simp [intOf]; omega⟩
            · have hne : (er j != 0) = true := by simp [he]
              have hfn0 : fn ≠ 0 := fun h0 => he (HNO.out (by rw [List.length_eq_zero_iff.1 (hfl.trans h0)]; rfl) j hlt)
              have hf0 : ((fn : Int) == 0) = false := by simp; omega
              have hd0 := hn2 he
              have HD0 := Lib.hid hd0
              clear hn1 hn2 hn3 hd0 he
              go_wp2_with fail
              go_round
              case rel => exact ⟨j + 1, av, q, by go_num, rfl, by rw [HSU.out j hlt, HD0.out]; rfl, by omega, Nat.le_trans hav (HNX.out j hlt).1, rfl⟩
              case measure => simp [intOf]; omega
          · obtain rfl : j = k := by omega
            have hbe : Below w.heap.size w (w6.drewN q) := below_drewN (hbw4.trans (hb6.mono hbw4.size)) q
            go_wp2_with fail
            refine (HLI.out (w6.drewN q) hbe).mono ?_
            rintro e w7 ⟨rfl, hb7⟩
            go_wp2_with fail
            go_ret
            exact ⟨rfl, hbe.trans (hb7.mono hbe.size)⟩
end Go.Proofs.YtiajboiobjfcoaaGreatDoor
