/-
  What is proved here: what the law's device answers to an In token, where it is a stream's.
  Conditions: what its block and its lists' cells hold.
-/
import Derived.Test.YtiajboiobjfcoaaGreatDoorOAns
namespace Go.Proofs.YtiajboiobjfcoaaGreatDoor
open Go.Proofs Go.RowKit
attribute [local go_sem] lt2 lt3 lt4 lt5
def GrS.giveB (K : GrK) (s : GrS) : Option Pk × GrS :=
 if (s.ask K).1 = 2 then (some ⟨14, 0, 0, []⟩, (s.ask K).2)
 else if (s.ask K).1 = 1 ∨ K.on ≤ s.nx then (some ⟨10, 0, 0, []⟩, (s.ask K).2)
 else (some ⟨if s.tg then 11 else 3, 0, 0, K.offs[s.nx]?.getD []⟩, { (s.ask K).2 with wt := true })
set_option maxHeartbeats 4000000 in
set_option maxRecDepth 1000000 in
theorem give_blk (K : GrK) (hiso : K.iso = false) (G B0 B1 : Nat) (tv : Value) (s : GrS) (w : World) (h : GrAt K G B0 B1 w tv s) (hr : s.room) (hG : B0 ≤ B1) (hGB : G < B1) (hB : B1 ≤ w.heap.size) :
  Calls Tryz.prog 129 #[.pointer (some ⟨G, 0, none⟩)] w (GiveEnd K G B0 B1 tv (s.giveB K) w) := by
 obtain ⟨r, hr0⟩ : ∃ r, s.giveB K = r := ⟨_, rfl⟩
 have HR := Lib.hid hr0
 rw [hr0]
 clear hr0
 obtain ⟨endp, inn, iso, ans, aA, an, ac, offs, vs, oA, on, oc⟩ := K
 obtain ⟨tg, at_, nx, wt, tk, taken, many⟩ := s
 dsimp only at hiso
 subst hiso
 have hbox := h.box
 unfold grCells at hbox
 dsimp only at hbox
 have hba : ∀ o, Below w.heap.size w (w.alloc o) := fun o => (Below.refl _ w).alloc (Nat.le_refl _) o
 have b2 := fun o => cell_of (heap_below hbox (hba o)) 2
 have hans := fun o => answer_ret _ G B0 B1 tv _ (w.alloc o) (⟨heap_below h.box (hba o), own_below h.own (hba o), h.rng, h.lists.far fun i hi => (hba o).block i (by have := hi.1; omega)⟩ : GrAt _ G B0 B1 (w.alloc o) tv _) hr hGB
 have hGl : G < w.heap.size := (Array.getElem?_eq_some_iff.1 hbox).1
 have hoe := own_ge h.own
 have hol := own_lt h.own
 go_enter Tryz.func129, Tryz.ntmps129
 go_wp2_with fail
 refine (hans _).mono ?_
 rintro e wa ⟨rfl, hA, hWa⟩
 have hR : wa.heap[w.heap.size]? = some (.cells #[.int .u8 0, .int .u8 0, .int .u8 0, .int .u16 0, .int .u8 0, .int .u8 0, .bool false, .bool false, .int .u8 0, .slice none 0 0] 144 (0, 0)) := (hWa.other _ (by omega)).trans (heap_alloc_new w _)
 have hxa : Mx (fun i => i = G) no w no wa := ⟨hWa.os, hWa.tape, hWa.output, by rw [hWa.size]; exact (hba _).size, fun i hi _ hx => (hWa.other i hx).trans ((hba _).block i hi), fun _ _ h => h⟩
 clear hans b2 hba
 obtain ⟨av, hav⟩ : ∃ av, (GrS.ask ⟨endp, inn, false, ans, aA, an, ac, offs, vs, oA, on, oc⟩ ⟨tg, at_, nx, wt, tk, taken, many⟩).1 = av := ⟨_, rfl⟩
 have hA : GrAt ⟨endp, inn, false, ans, aA, an, ac, offs, vs, oA, on, oc⟩ G B0 B1 wa tv ⟨tg, at_ + 1, nx, wt, tk, taken, many⟩ := hA
 rw [hav]
 have HAV := Lib.hid hav
 have HA := Lib.hid hA
 have hwb := hA.box
 unfold grCells at hwb
 dsimp only at hwb
 clear hav hA
 have hnil : ∀ w2, Wrote w.heap.size wa w2 → GrAt ⟨endp, inn, false, ans, aA, an, ac, offs, vs, oA, on, oc⟩ G B0 B1 w2 tv ⟨tg, at_ + 1, nx, wt, tk, taken, many⟩ ∧ Mx (fun i => i = G) no w no w2 := fun w2 hW =>
  ⟨(HA.out).wr hW (by omega) (by omega) (fun i hi => by have := hol i hi; omega), hxa.wr1 hW (Nat.le_refl _)⟩
 by_cases ha2 : av = 2
 ·subst ha2
  go_wp2_with (guard_target =~ wpList _ _ _ (_ :: _) _ _; (refine wpList_store_row rfl (.tmp 2) (.tmp 43) 144 rfl w.heap.size 0 144 _ _ #[.int .u8 14, .int .u8 0, .int .u8 0, .int .u16 0, .int .u8 0, .int .u8 0, .bool false, .bool false, .int .u8 0, .slice none 0 0] rfl rfl hR (by kernel_rfl) (by simp) rfl rfl ?_; intro w2 hZ2 hW2))
  refine ret_cell _ _ _ _ _ rfl rfl rfl hZ2 Tryz.underlying144 rfl (by kernel_rfl) rfl ?_
  obtain ⟨e1, e2⟩ := hnil w2 hW2
  refine ⟨⟨14, 0, 0, []⟩, true, none, 0, 0, rfl, ?_, e2, (D8.nil w2 no).1, .inl rfl, ?_⟩
  ·rw [← HR.out]; unfold GrS.giveB; rw [if_pos HAV.out]; exact e1
  ·rw [← HR.out]; unfold GrS.giveB; rw [if_pos HAV.out]; rfl
 have q2 : (av == 2) = false := by simp [ha2]
 have g6 := cell_of hwb 6
 have g7 := cell_of hwb 7
 go_upto_region 9 with fail
 by_cases ha1 : av = 1
 ·subst ha1
  go_region
  all_goals
   have hRd : wa.drew.heap[w.heap.size]? = some (.cells #[.int .u8 0, .int .u8 0, .int .u8 0, .int .u16 0, .int .u8 0, .int .u8 0, .bool false, .bool false, .int .u8 0, .slice none 0 0] 144 (0, 0)) := hR
   go_wp2_with (guard_target =~ wpList _ _ _ (_ :: _) _ _; (refine wpList_store_row rfl (.tmp 2) (.tmp 58) 144 rfl w.heap.size 0 144 _ _ #[.int .u8 10, .int .u8 0, .int .u8 0, .int .u16 0, .int .u8 0, .int .u8 0, .bool false, .bool false, .int .u8 0, .slice none 0 0] rfl rfl hRd (by kernel_rfl) (by simp) rfl rfl ?_; intro w2 hZ2 hW2))
   refine ret_cell _ _ _ _ _ rfl rfl rfl hZ2 Tryz.underlying144 rfl (by kernel_rfl) rfl ?_
   obtain ⟨e1, e2⟩ := hnil w2 hW2.undrew
   refine ⟨⟨10, 0, 0, []⟩, true, none, 0, 0, rfl, ?_, e2, (D8.nil w2 no).1, .inl rfl, ?_⟩
   ·rw [← HR.out]; unfold GrS.giveB; rw [if_neg (by rw [HAV.out]; exact ha2), if_pos (.inl HAV.out)]; exact e1
   ·rw [← HR.out]; unfold GrS.giveB; rw [if_neg (by rw [HAV.out]; exact ha2), if_pos (.inl HAV.out)]; rfl
 have q1 : (av == 1) = false := by simp [ha1]
 by_cases hlt : on ≤ nx
 ·have q3 : (on : Int) ≤ (nx : Int) := by omega
  have q4 : ¬ (nx : Int) < (on : Int) := by omega
  go_region
  all_goals
   have hRd : wa.drew.heap[w.heap.size]? = some (.cells #[.int .u8 0, .int .u8 0, .int .u8 0, .int .u16 0, .int .u8 0, .int .u8 0, .bool false, .bool false, .int .u8 0, .slice none 0 0] 144 (0, 0)) := hR
   go_wp2_with (guard_target =~ wpList _ _ _ (_ :: _) _ _; (refine wpList_store_row rfl (.tmp 2) (.tmp 58) 144 rfl w.heap.size 0 144 _ _ #[.int .u8 10, .int .u8 0, .int .u8 0, .int .u16 0, .int .u8 0, .int .u8 0, .bool false, .bool false, .int .u8 0, .slice none 0 0] rfl rfl hRd (by kernel_rfl) (by simp) rfl rfl ?_; intro w2 hZ2 hW2))
   refine ret_cell _ _ _ _ _ rfl rfl rfl hZ2 Tryz.underlying144 rfl (by kernel_rfl) rfl ?_
   obtain ⟨e1, e2⟩ := hnil w2 hW2.undrew
   refine ⟨⟨10, 0, 0, []⟩, true, none, 0, 0, rfl, ?_, e2, (D8.nil w2 no).1, .inl rfl, ?_⟩
   ·rw [← HR.out]; unfold GrS.giveB; rw [if_neg (by rw [HAV.out]; exact ha2), if_pos (.inr hlt)]; exact e1
   ·rw [← HR.out]; unfold GrS.giveB; rw [if_neg (by rw [HAV.out]; exact ha2), if_pos (.inr hlt)]; rfl
 ·have hnx : nx < on := by omega
  have q3 : ¬ (on : Int) ≤ (nx : Int) := by omega
  have q4 : (nx : Int) < (on : Int) := by omega
  obtain ⟨a, Ak, nk, ck, b, rfl, eb, hnv, hck, huk, hnk, hnc⟩ := (h.lists.2.1).elem2 (h.lists.2.2.1) hnx
  have EB := Lib.hid eb
  have hfk := h.lists.2.2.2.2.2 nx Ak nk ck hnv
  have hab : Fx G B0 a.block := by
   rcases h.lists.2.2.2.2.1 with h0 | ⟨a', e, hl⟩
   ·simp at h0; omega
   ·cases e; exact hl
  have cka : wa.cell? (a.add nx) = some (.slice Ak nk ck) := (World.cell?_of_block (w := w) (w' := wa) (a := a.add nx) (by rw [add_block']; exact hxa.block _ (by have := hab.1; omega) (fun h => h) hab.2)).trans hck
  have haG : (a.add nx).block ≠ G := by rw [add_block']; exact hab.2
  have HNV := Lib.hid hnv
  clear hnv eb
  have g8 := cell_of hwb 8
  have f8 := frozen_of hwb 8
  go_region
  all_goals
   go_upto_region 12 with fail
   obtain ⟨w3, hw3⟩ : ∃ w3, wa.setCell ⟨G, 8, none⟩ (.bool true) = w3 := ⟨_, rfl⟩
   have hW3 : Wrote G wa w3 := by rw [← hw3]; exact (Wrote.refl G _).setCell 8 _
   have hG3 : w3.heap[G]? = some (.cells #[.int .u8 endp, .bool inn, .bool false, .bool tg, .slice aA an ac, .int .i64 ((at_ + 1 : Nat) : Int), .slice (some a) on oc, .int .i64 (nx : Int), .bool true, .bool tk, tv, .int .i64 (many : Int)] 34 (0, 0)) := by rw [← hw3]; exact setCell_heap hwb 8 _
   have hR3 : w3.heap[w.heap.size]? = some (.cells #[.int .u8 0, .int .u8 0, .int .u8 0, .int .u16 0, .int .u8 0, .int .u8 0, .bool false, .bool false, .int .u8 0, .slice none 0 0] 144 (0, 0)) := (hW3.other _ (by omega)).trans hR
   have ck3 : w3.cell? (a.add nx) = some (.slice Ak nk ck) := (World.cell?_of_block (w := wa) (w' := w3) (a := a.add nx) (hW3.other _ haG)).trans cka
   rw [hw3]
   clear hw3 g6 g7 g8 f8 cka hab haG
   have hx3 : Mx (fun i => i = G) no w no w3 := ⟨hW3.os.trans hxa.os, hW3.tape.trans hxa.tape, hW3.output.trans hxa.output, by rw [hW3.size]; exact hxa.size, fun i hi hs hx => (hW3.other i hx).trans (hxa.block i hi hs hx), hxa.sub⟩
   have hend3 : ∀ w2, Wrote w.heap.size w3 w2 → GrAt ⟨endp, inn, false, ans, aA, an, ac, offs, vs, some a, on, oc⟩ G B0 B1 w2 tv ⟨tg, at_ + 1, nx, true, tk, taken, many⟩ ∧ Mx (fun i => i = G) no w no w2 := by
    intro w2 hW
    have hx2 := hx3.wr1 hW (Nat.le_refl _)
    refine ⟨⟨?_, ?_, h.rng, h.lists.far (fun i hi => hx2.block i (by have := hi.1; omega) (fun h => h) hi.2)⟩, hx2⟩
    ·unfold grCells
     rw [hW.other G (by omega), hG3]
    ·exact own_wg (own_wg (HA.out).own hW3 (fun i hi => by have := hoe i hi; omega)) hW (fun i hi => by have := hol i hi; omega)
   have g3 := cell_of hG3 3
   have g6 := cell_of hG3 6
   have g7 := cell_of hG3 7
   have r0 := cell_of hR3 0
   have r1 := cell_of hR3 1
   have r2 := cell_of hR3 2
   have r3 := cell_of hR3 3
   have r4 := cell_of hR3 4
   have r5 := cell_of hR3 5
   have r6 := cell_of hR3 6
   have r7 := cell_of hR3 7
   have r8 := cell_of hR3 8
   have r9 := cell_of hR3 9
   have f0 := frozen_of hR3 0
   have f1 := frozen_of hR3 1
   have f2 := frozen_of hR3 2
   have f3 := frozen_of hR3 3
   have f4 := frozen_of hR3 4
   have f5 := frozen_of hR3 5
   have f6 := frozen_of hR3 6
   have f7 := frozen_of hR3 7
   have f8 := frozen_of hR3 8
   have f9 := frozen_of hR3 9
   cases tg with
   | false =>
     go_upto_region 14 with fail
     go_region
     all_goals
      have hP := put10g hR3 (.int .u8 3) (.int .u8 0) (.int .u8 0) (.int .u16 0) (.int .u8 0) (.int .u8 0) (.bool false) (.bool false) (.int .u8 0) (.slice Ak nk ck)
      generalize ((((((((((w3.setCell ⟨w.heap.size, 0, none⟩ (.int .u8 3)).setCell ⟨w.heap.size, 1, none⟩ (.int .u8 0)).setCell ⟨w.heap.size, 2, none⟩ (.int .u8 0)).setCell ⟨w.heap.size, 3, none⟩ (.int .u16 0)).setCell ⟨w.heap.size, 4, none⟩ (.int .u8 0)).setCell ⟨w.heap.size, 5, none⟩ (.int .u8 0)).setCell ⟨w.heap.size, 6, none⟩ (.bool false)).setCell ⟨w.heap.size, 7, none⟩ (.bool false)).setCell ⟨w.heap.size, 8, none⟩ (.int .u8 0)).setCell ⟨w.heap.size, 9, none⟩ (.slice Ak nk ck)) = w4 at hP ⊢
      have hZ2 := heap_drew2 hP.1
      have hW2 := hP.2
      clear hP
      go_wp2_with fail
      refine ret_cell _ _ _ _ _ rfl rfl rfl hZ2 Tryz.underlying144 rfl (by kernel_rfl) rfl ?_
      obtain ⟨e1, e2⟩ := hend3 w4 hW2
      refine ⟨⟨3, 0, 0, b⟩, true, Ak, nk, ck, rfl, ?_, ?_, ?_, hfk, ?_⟩
      ·rw [← HR.out]; unfold GrS.giveB; rw [if_neg (by rw [HAV.out]; exact ha2), if_neg (by rw [HAV.out]; rintro (h' | h'); exact ha1 h'; have h'' : on ≤ nx := h'; omega)]; exact ⟨e1.box, e1.own, e1.rng, e1.lists⟩
      ·exact ⟨e2.os, e2.tape, e2.output, e2.size, e2.block, e2.sub⟩
      ·exact huk.far hfk (fun i hi => e2.block i (by have := hi.1; omega) (fun h => h) hi.2)
      ·rw [← HR.out]; unfold GrS.giveB; rw [if_neg (by rw [HAV.out]; exact ha2), if_neg (by rw [HAV.out]; rintro (h' | h'); exact ha1 h'; have h'' : on ≤ nx := h'; omega)]; dsimp only; rw [EB.out]; rfl
   | true =>
     go_upto_region 13 with fail
     go_region
     all_goals
      have hP := put10g hR3 (.int .u8 11) (.int .u8 0) (.int .u8 0) (.int .u16 0) (.int .u8 0) (.int .u8 0) (.bool false) (.bool false) (.int .u8 0) (.slice Ak nk ck)
      generalize ((((((((((w3.setCell ⟨w.heap.size, 0, none⟩ (.int .u8 11)).setCell ⟨w.heap.size, 1, none⟩ (.int .u8 0)).setCell ⟨w.heap.size, 2, none⟩ (.int .u8 0)).setCell ⟨w.heap.size, 3, none⟩ (.int .u16 0)).setCell ⟨w.heap.size, 4, none⟩ (.int .u8 0)).setCell ⟨w.heap.size, 5, none⟩ (.int .u8 0)).setCell ⟨w.heap.size, 6, none⟩ (.bool false)).setCell ⟨w.heap.size, 7, none⟩ (.bool false)).setCell ⟨w.heap.size, 8, none⟩ (.int .u8 0)).setCell ⟨w.heap.size, 9, none⟩ (.slice Ak nk ck)) = w4 at hP ⊢
      have hZ2 := heap_drew2 hP.1
      have hW2 := hP.2
      clear hP
      go_wp2_with fail
      refine ret_cell _ _ _ _ _ rfl rfl rfl hZ2 Tryz.underlying144 rfl (by kernel_rfl) rfl ?_
      obtain ⟨e1, e2⟩ := hend3 w4 hW2
      refine ⟨⟨11, 0, 0, b⟩, true, Ak, nk, ck, rfl, ?_, ?_, ?_, hfk, ?_⟩
      ·rw [← HR.out]; unfold GrS.giveB; rw [if_neg (by rw [HAV.out]; exact ha2), if_neg (by rw [HAV.out]; rintro (h' | h'); exact ha1 h'; have h'' : on ≤ nx := h'; omega)]; exact ⟨e1.box, e1.own, e1.rng, e1.lists⟩
      ·exact ⟨e2.os, e2.tape, e2.output, e2.size, e2.block, e2.sub⟩
      ·exact huk.far hfk (fun i hi => e2.block i (by have := hi.1; omega) (fun h => h) hi.2)
      ·rw [← HR.out]; unfold GrS.giveB; rw [if_neg (by rw [HAV.out]; exact ha2), if_neg (by rw [HAV.out]; rintro (h' | h'); exact ha1 h'; have h'' : on ≤ nx := h'; omega)]; dsimp only; rw [EB.out]; rfl
end Go.Proofs.YtiajboiobjfcoaaGreatDoor
