/-
  What is proved here: what the law's run returns where the job may be over before its last step.
  Conditions: what pipes.Next, transactions.Do and pipes.Answer return, as hypotheses.
-/
import Derived.Test.YtiajboiobjfcoaaGreatDoorIIso
namespace Go.Proofs.YtiajboiobjfcoaaGreatDoor
open Go.Proofs Go.RowKit
attribute [local go_sem] lt2 lt3 lt4 lt5
set_option maxHeartbeats 4000000 in
set_option maxRecDepth 1000000 in
theorem run_stop (M : Bus) (n m : Nat) (hn : n ≤ 1000000) (hmn : m ≤ n) (w : World) (st : Nat → M.σ) (res : Nat → Int) (dat : Nat → List Int) (Wk : Nat → World → (Nat → Prop) → Array Value → Prop) (H : Runs M m w.heap.size st res dat Wk)
    (hstop : m < n → ∀ wr S V, Wk m wr S V → Calls Tryz.prog 18 #[.agg V] wr fun e w' => Below wr.heap.size wr w' ∧ e = .returned (.tuple #[.agg #[.int .u8 0, .int .u8 0, .int .u8 0, .bool false, .bool false, .int .i64 0, .slice none 0 0], .bool false])) (S0 : Nat → Prop) (V0 : Array Value)
    (hW : Wk 0 w S0 V0) (hI : M.I w S0 (st 0)) :
    Calls Tryz.prog 12 #[.agg V0, .iface 32 (.pointer (some M.ga)), M.wv, .int .i64 (n : Int)] w (RunEnd M st Wk w S0 m) := by
  have i47 : (Tryz.prog.info? 54).map (·.size) = some 47 := by kernel_rfl
  have i7 : (Tryz.prog.info? 80).map (·.size) = some 7 := by kernel_rfl
  have hb3 : ∀ a b, Below w.heap.size w ((w.alloc a).alloc b) := fun a b => ((Below.refl w.heap.size w).alloc (Nat.le_refl _) a).alloc (by simp) b
  go_enter Tryz.func12, Tryz.ntmps12
  go_wp2_with fail
  go_loopw [9] (fun i wr => ∃ k : Nat, i = .int .i64 k ∧ k ≤ m ∧ RunAt M w.heap.size st Wk w S0 k wr) (fun i _ => n - (intOf i).toNat)
  case atStart =>
    refine ⟨0, rfl, by omega, S0, V0, H.mv hW ((Mv.refl _ _).below (hb3 _ _)), Bus.below hI (hb3 _ _), (Mv.refl _ _).below (hb3 _ _), alloc2_0 _ _ _, ⟨_, ?_, alloc2_1 _ _ _⟩, Bus.new hI (Nat.le_refl _), Bus.new hI (Nat.le_succ _)⟩
    rfl
  case round =>
    obtain ⟨k, rfl, hk, S, V, hWk, hIk, hmv, hB, ⟨Z, hZs, hZ⟩, hs0, hs1⟩ := hrel
    have hV := H.sz hWk
    by_cases hlt : k < m
    · have q1 : (k : Int) < (n : Int) := by omega
      have hnx := H.next hlt hWk hIk
      go_wp2_with (guard_target =~ wpList _ _ _ (_ :: _) _ _; refine wpList_load_row rfl (.tmp 4) 54 rfl w.heap.size 54 V _ rfl hB Tryz.underlying54 rfl (by rw [i47, hV.1]) ?_)
      refine hnx.mono ?_
      rintro e w1 ⟨hb1, T, rfl, hT7, hT1, hdo⟩
      have hb0 : w.heap.size + 1 < wr.heap.size := (Array.getElem?_eq_some_iff.1 hZ).1
      have hn1 : ¬ S w1.heap.size := fun h => by have := M.lt hIk _ h; have := hb1.size; omega
      have hkb := hb1.size
      clear hnx
      go_wp2_with (guard_target =~ wpList _ _ _ (_ :: _) _ _; first
        | (refine wpList_store_row rfl (.tmp 10) (.tmp 22) 80 rfl w1.heap.size 0 80 _ T T rfl rfl (heap_alloc_new w1 _) (by rw [i7, hT7]) (by rw [hT7]; decide) hT1 (row_same (by rw [hT7]; rfl)) ?_
           intro w2 hT2 hW2
           have hb12 : Below w1.heap.size w1 w2 := ((Below.refl _ w1).alloc (Nat.le_refl _) _).trans (hW2.below (Nat.le_refl _)))
        | refine wpList_load_row rfl (.tmp 10) 80 rfl w1.heap.size 80 T _ rfl hT2 Tryz.underlying80 rfl (by rw [i7, hT7]) ?_)
      refine (hdo w2 hb12).mono ?_
      clear hdo
      rintro e w3 ⟨S', A', m', c', sA, sn, sc, rfl, hI3, hm3, hd3⟩
      have hbr := hb1.trans (hb12.mono hb1.size)
      obtain ⟨hB3, hs0'⟩ := hm3.keep0 (heap_below hB hbr) hs0
      obtain ⟨hZ3, hs1'⟩ := hm3.keep0 (heap_below hZ hbr) hs1
      have hmr : Mv S wr S' w3 := ((Mv.refl S wr).below hbr).trans hm3
      have hW3 := H.mv hWk hmr
      have hm03 := hmv.trans hmr
      have hsz3 : wr.heap.size ≤ w3.heap.size := hmr.size
      clear hB hZ hT2
      go_wp2_with (guard_target =~ wpList _ _ _ (_ :: _) _ _; first
        | (refine wpList_store_row rfl (.tmp 12) (.tmp 32) 86 rfl w3.heap.size 0 86 _ _ #[.int .u8 (res k), .slice A' m' c'] rfl rfl (heap_alloc_new w3 _) (by kernel_rfl) (by simp) rfl rfl ?_
           intro w4 hO4 hW4
           have hb34 : Below w3.heap.size w3 w4 := ((Below.refl _ w3).alloc (Nat.le_refl _) _).trans (hW4.below (Nat.le_refl _))
           have hB4 := heap_below hB3 hb34)
        | refine wpList_load_row rfl (.tmp 4) 54 rfl w.heap.size 54 V _ rfl hB4 Tryz.underlying54 rfl (by rw [i47, hV.1]) ?_
        | refine wpList_load_row rfl (.tmp 12) 86 rfl w3.heap.size 86 _ _ rfl hO4 Tryz.underlying86 rfl (by kernel_rfl) ?_)
      have hI4 := Bus.below hI3 hb34
      refine (H.ans hlt (H.mv hW3 ((Mv.refl S' w3).below hb34)) hI4 (hd3.below hb34) (by have := hb34.size; omega)).mono ?_
      rintro e w5 ⟨hb5, V', rfl, hW5⟩
      have hb35 := hb34.trans (hb5.mono hb34.size)
      have hB5 := heap_below hB3 hb35
      have hZ5 := heap_below hZ3 hb35
      have hI5 := Bus.below hI3 hb35
      have hV' := H.sz hW5
      clear hB4 hO4 hB3 hZ3 hI4 hI3 hd3
      go_wp2_with (guard_target =~ wpList _ _ _ (_ :: _) _ _; first
        | (refine wpList_store_row rfl (.tmp 4) (.tmp 36) 54 rfl w.heap.size 0 54 V V' V' rfl rfl hB5 (by rw [i47, hV'.1]) (by rw [hV.1, hV'.1]; decide) hV'.2 (row_same (by rw [hV.1, hV'.1])) ?_
           intro w6 hB6 hW6))
      go_round
      case rel =>
        exact ⟨k + 1, by go_num, by omega, S', V', H.bx hW5 hW6 (Nat.le_refl _) (Nat.le_succ _), Bus.wrote hI5 hW6 (M.base hI) hs0', (hm03.below hb35).wrote hW6 (Nat.le_refl _), hB6, ⟨Z, hZs, (hW6.other _ (by omega)).trans hZ5⟩, hs0', hs1'⟩
      case measure => simp [intOf]; omega
    · obtain rfl : k = m := by omega
      by_cases hkn : k < n
      · have q1 : (k : Int) < (n : Int) := by omega
        have hnx := hstop hkn wr S V hWk
        go_wp2_with (guard_target =~ wpList _ _ _ (_ :: _) _ _; refine wpList_load_row rfl (.tmp 4) 54 rfl w.heap.size 54 V _ rfl hB Tryz.underlying54 rfl (by rw [i47, hV.1]) ?_)
        refine hnx.mono ?_
        rintro e w1 ⟨hb1, rfl⟩
        have hb0 : w.heap.size + 1 < wr.heap.size := (Array.getElem?_eq_some_iff.1 hZ).1
        have hB1 := heap_below hB hb1
        have hZ1 := heap_below hZ hb1
        have hkb := hb1.size
        clear hnx
        go_wp2_with (guard_target =~ wpList _ _ _ (_ :: _) _ _; first
          | (refine wpList_store_row rfl (.tmp 10) (.tmp 22) 80 rfl w1.heap.size 0 80 _ _ #[.int .u8 0, .int .u8 0, .int .u8 0, .bool false, .bool false, .int .i64 0, .slice none 0 0] rfl rfl (heap_alloc_new w1 _) (by kernel_rfl) (Nat.le_refl 7) rfl rfl ?_
             intro w2 hT2 hW2
             have hb12 : Below w1.heap.size w1 w2 := ((Below.refl _ w1).alloc (Nat.le_refl _) _).trans (hW2.below (Nat.le_refl _))
             have hB2 := heap_below hB1 hb12
             have hZ2 := heap_below hZ1 hb12)
          | refine wpList_load_row rfl (.tmp 4) 54 rfl w.heap.size 54 V _ rfl hB2 Tryz.underlying54 rfl (by rw [i47, hV.1]) ?_
          | (refine wpList_store_row rfl (.tmp 8) (.tmp 26) 54 rfl (w.heap.size + 1) 0 54 Z V V rfl rfl hZ2 (by rw [i47, hV.1]) (by rw [hZs, hV.1]; decide) hV.2 (row_same (by rw [hZs, hV.1])) ?_
             intro w6 hB6 hW6))
        have hb := hb1.trans (hb12.mono hb1.size)
        exact ret_one _ _ _ _ rfl rfl hB6 Tryz.underlying54 rfl (by rw [i47, hV.1]) rfl ⟨S, V, rfl, H.bx (H.mv hWk ((Mv.refl _ _).below hb)) hW6 (Nat.le_succ _) (Nat.le_refl _), Bus.wrote (Bus.below hIk hb) hW6 (by have := M.base hI; omega) hs1, (hmv.below hb).wrote hW6 (Nat.le_succ _)⟩
      obtain rfl : k = n := by omega
      go_wp2_with (guard_target =~ wpList _ _ _ (_ :: _) _ _; first
        | refine wpList_load_row rfl (.tmp 4) 54 rfl w.heap.size 54 V _ rfl hB Tryz.underlying54 rfl (by rw [i47, hV.1]) ?_
        | (refine wpList_store_row rfl (.tmp 8) (.tmp 37) 54 rfl (w.heap.size + 1) 0 54 Z V V rfl rfl hZ (by rw [i47, hV.1]) (by rw [hZs, hV.1]; decide) hV.2 (row_same (by rw [hZs, hV.1])) ?_
           intro w6 hB6 hW6))
      exact ret_one _ _ _ _ rfl rfl hB6 Tryz.underlying54 rfl (by rw [i47, hV.1]) rfl ⟨S, V, rfl, H.bx hWk hW6 (Nat.le_succ _) (Nat.le_refl _), Bus.wrote hIk hW6 (by have := M.base hI; omega) hs1, hmv.wrote hW6 (Nat.le_succ _)⟩
end Go.Proofs.YtiajboiobjfcoaaGreatDoor
