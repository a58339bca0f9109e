/-
  What is proved here: what the law's device does when it hears a packet, where it is a stream's, IN.
  Conditions: what its block and its lists' cells hold.
-/
import Derived.Test.YtiajboiobjfcoaaGreatDoorNGive
namespace Go.Proofs.YtiajboiobjfcoaaGreatDoor
open Go.Proofs Go.RowKit
attribute [local go_sem] lt2 lt3 lt4 lt5
def GrS.hearIn (K : GrK) (s : GrS) (p : Pk) : Option Pk × GrS :=
 if p.pid = 9 then (if K.mine p = true then GrS.giveB K { s with wt := false, tk := false } else (none, { s with wt := false, tk := false }))
 else (none, if s.wt = true then { s with wt := false, tk := false, nx := s.nx + 1, tg := !s.tg } else { s with wt := false, tk := false })
set_option maxHeartbeats 4000000 in
set_option maxRecDepth 1000000 in
theorem hear_in (K : GrK) (hiso : K.iso = false) (hin : K.inn = true) (G B0 B1 : Nat) (tv : Value) (s : GrS) (p : Pk) (hp : p.pid = 9 ∨ p.pid = 2) (A : Option Addr) (n c : Nat) (w : World) (h : GrAt K G B0 B1 w tv s) (hr : s.room) (hG : B0 ≤ B1) (hGB : G < B1) (hB : B1 ≤ w.heap.size) (hu : U8 w A n c p.data) (hAG : n = 0 ∨ ∃ a, A = some a ∧ a.block ≠ G)  :
  Calls Tryz.prog 127 #[.pointer (some ⟨G, 0, none⟩), pkV p (.slice A n c)] w (HearEnd K G B0 B1 tv (s.hearIn K p) w) := by
 have hgive := fun w (h : GrAt K G B0 B1 w tv { s with wt := false, tk := false }) hB => give_blk K hiso G B0 B1 tv { s with wt := false, tk := false } w h hr hG hGB hB
 obtain ⟨endp, inn, iso, ans, aA, an, ac, offs, vs, oA, on, oc⟩ := K
 obtain ⟨tg, at_, nx, wt, tk, taken, many⟩ := s
 obtain ⟨pid, pa, pe, xs⟩ := p
 dsimp only at hiso hin hu hp hgive
 subst hiso
 subst hin
 have hbox := h.box
 unfold grCells at hbox
 dsimp only at hbox
 unfold pkV
 dsimp only
 have hb2 : ∀ a b, Below w.heap.size w ((w.alloc a).alloc b) := fun a b => ((Below.refl w.heap.size w).alloc (Nat.le_refl _) a).alloc (by simp) b
 have b8 := fun o o' => cell_of (heap_below hbox (hb2 o o')) 8
 have b9 := fun o o' => cell_of (heap_below hbox (hb2 o o')) 9
 have f8 := fun o o' => frozen_of (heap_below hbox (hb2 o o')) 8
 have f9 := fun o o' => frozen_of (heap_below hbox (hb2 o o')) 9
 go_enter Tryz.func127, Tryz.ntmps127
 go_upto_region 1 with fail
 go_region
 all_goals
  go_upto_region 4 with fail
  obtain ⟨w1, hw1'⟩ : ∃ w1, (((w.alloc (.cells #[.int .u8 pid, .int .u8 pa, .int .u8 pe, .int .u16 0, .int .u8 0, .int .u8 0, .bool false, .bool false, .int .u8 0, .slice A n c] 144)).alloc (.cells #[.int .u8 0, .int .u8 0, .int .u8 0, .int .u16 0, .int .u8 0, .int .u8 0, .bool false, .bool false, .int .u8 0, .slice none 0 0] 144)).setCell ⟨G, 8, none⟩ (.bool false)).setCell ⟨G, 9, none⟩ (.bool false) = w1 := ⟨_, rfl⟩
  have hGl : G < w.heap.size := (Array.getElem?_eq_some_iff.1 hbox).1
  have hoe := own_ge h.own
  have hol := own_lt h.own
  have hP := ((Put1.refl (heap_below hbox (hb2 (.cells #[.int .u8 pid, .int .u8 pa, .int .u8 pe, .int .u16 0, .int .u8 0, .int .u8 0, .bool false, .bool false, .int .u8 0, .slice A n c] 144) (.cells #[.int .u8 0, .int .u8 0, .int .u8 0, .int .u16 0, .int .u8 0, .int .u8 0, .bool false, .bool false, .int .u8 0, .slice none 0 0] 144)))).set 8 (.bool false)).set 9 (.bool false)
  have hG1 : w1.heap[G]? = some (.cells #[.int .u8 endp, .bool true, .bool false, .bool tg, .slice aA an ac, .int .i64 (at_ : Int), .slice oA on oc, .int .i64 (nx : Int), .bool false, .bool false, tv, .int .i64 (many : Int)] 34 (0, 0)) := by rw [← hw1']; exact hP.heap
  have hW1 : Wrote G ((w.alloc (.cells #[.int .u8 pid, .int .u8 pa, .int .u8 pe, .int .u16 0, .int .u8 0, .int .u8 0, .bool false, .bool false, .int .u8 0, .slice A n c] 144)).alloc (.cells #[.int .u8 0, .int .u8 0, .int .u8 0, .int .u16 0, .int .u8 0, .int .u8 0, .bool false, .bool false, .int .u8 0, .slice none 0 0] 144)) w1 := by rw [← hw1']; exact hP.wrote
  rw [hw1']
  clear hw1' hP b8 b9 f8 f9
  have hP1 : w1.heap[w.heap.size]? = some (.cells #[.int .u8 pid, .int .u8 pa, .int .u8 pe, .int .u16 0, .int .u8 0, .int .u8 0, .bool false, .bool false, .int .u8 0, .slice A n c] 144 (0, 0)) := (hW1.other _ (by omega)).trans (alloc2_0 _ _ _)
  have hR1 : w1.heap[w.heap.size + 1]? = some (.cells #[.int .u8 0, .int .u8 0, .int .u8 0, .int .u16 0, .int .u8 0, .int .u8 0, .bool false, .bool false, .int .u8 0, .slice none 0 0] 144 (0, 0)) := (hW1.other _ (by omega)).trans (alloc2_1 _ _ _)
  have p0 := cell_of hP1 0
  have p1 := cell_of hP1 1
  have p2 := cell_of hP1 2
  have g0 := cell_of hG1 0
  go_cut [8] from 23 to 34 (fun m wx => m = .bool (decide (pa = 5) && decide (pe = endp)) ∧ Below w1.heap.size w1 wx)
  case first =>
   by_cases h5 : pa = 5
   ·subst h5
    by_cases he : pe = endp
    ·subst he
     go_region
     all_goals
      go_wp2_with fail
      go_meet
      exact ⟨by simp, ⟨rfl, rfl, rfl, Nat.le_refl _, fun _ _ => rfl⟩⟩
    ·go_region
     all_goals
      go_wp2_with fail
      go_meet
      exact ⟨by simp [he], ⟨rfl, rfl, rfl, Nat.le_refl _, fun _ _ => rfl⟩⟩
   ·have e1 : (pa == 5) = false := by simp [h5]
    have e2 : decide (pa = 5) = false := by simp [h5]
    go_region
    all_goals
     go_wp2_with fail
     go_meet
     exact ⟨by simp [h5], ⟨rfl, rfl, rfl, Nat.le_refl _, fun _ _ => rfl⟩⟩
  case rest =>
   obtain ⟨rfl, hbx⟩ := hcut
   obtain ⟨m, hm⟩ : ∃ m, (decide (pa = 5) && decide (pe = endp)) = m := ⟨_, rfl⟩
   rw [hm]
   have HM := Lib.hid hm
   clear hm p0 p1 p2 g0
   have hGx := heap_below hG1 hbx
   have hPx := heap_below hP1 hbx
   have hRx := heap_below hR1 hbx
   have hb2' := hb2 (.cells #[.int .u8 pid, .int .u8 pa, .int .u8 pe, .int .u16 0, .int .u8 0, .int .u8 0, .bool false, .bool false, .int .u8 0, .slice A n c] 144) (.cells #[.int .u8 0, .int .u8 0, .int .u8 0, .int .u16 0, .int .u8 0, .int .u8 0, .bool false, .bool false, .int .u8 0, .slice none 0 0] 144)
   have hmx : Mx (fun i => i = G) no w no wc := ⟨hbx.os.trans (hW1.os.trans hb2'.os), hbx.tape.trans (hW1.tape.trans hb2'.tape), hbx.output.trans (hW1.output.trans hb2'.output), Nat.le_trans (by rw [hW1.size]; exact hb2'.size) hbx.size,
    fun i hi _ hx => by
     have := hb2'.size
     rw [hbx.block i (by rw [hW1.size]; omega), hW1.other i hx]
     exact hb2'.block i hi, fun _ _ h => h⟩
   have hsx : w.heap.size + 1 < wc.heap.size := (Array.getElem?_eq_some_iff.1 hRx).1
   have hGr : GrAt ⟨endp, true, false, ans, aA, an, ac, offs, vs, oA, on, oc⟩ G B0 B1 wc tv ⟨tg, at_, nx, false, false, taken, many⟩ := by
    refine ⟨hGx, ?_, h.rng, h.lists.far (fun i hi => hmx.block i (by have := hi.1; omega) (fun h => h) hi.2)⟩
    exact own_below (own_wg (own_below h.own hb2') hW1 (fun i hi => by have := hoe i hi; omega)) hbx
   have hux : U8 wc A n c xs := (U8.wrote (hu.below hb2') hW1 hAG).below hbx
   have hmine : GrK.mine ⟨endp, true, false, ans, aA, an, ac, offs, vs, oA, on, oc⟩ ⟨pid, pa, pe, xs⟩ = m := HM.out
   have HMI := Lib.hid hmine
   clear hmine
   have hend : ∀ w5, Wrote (w.heap.size + 1) wc w5 → GrAt ⟨endp, true, false, ans, aA, an, ac, offs, vs, oA, on, oc⟩ G B0 B1 w5 tv ⟨tg, at_, nx, false, false, taken, many⟩ ∧ Mx (fun i => i = G ∨ tv.ownBlock = some i) no w no w5 := fun w5 hW =>
    ⟨hGr.wr hW (by omega) (by omega) (fun i hi => by have := hol i hi; omega), (hmx.wr1 hW (by omega)).wider (fun i e => .inl e)⟩
   have p0 := cell_of hPx 0
   have g1 := cell_of hGx 1
   rcases hp with rfl | rfl
   ·cases m
    ·go_upto_region 19 with fail
     go_wp2_with (guard_target =~ wpList _ _ _ (_ :: _) _ _; (refine wpList_store_row rfl (.tmp 4) (.tmp 90) 144 rfl (w.heap.size + 1) 0 144 _ _ #[.int .u8 0, .int .u8 0, .int .u8 0, .int .u16 0, .int .u8 0, .int .u8 0, .bool false, .bool false, .int .u8 0, .slice none 0 0] rfl rfl hRx (by kernel_rfl) (by simp) rfl rfl ?_; intro w5 hZ5 hW5))
     refine ret_cell _ _ _ _ _ rfl rfl rfl hZ5 Tryz.underlying144 rfl (by kernel_rfl) rfl ?_
     obtain ⟨e1, e2⟩ := hend w5 hW5
     exact ⟨pk0, false, none, 0, 0, tv, rfl, by unfold GrS.hearIn; simp [HMI.out]; exact e1, e2, (D8.nil w5 no).1, .inl rfl, by unfold GrS.hearIn; simp [HMI.out], fun i h => .inl h⟩
    ·have hgv := hgive wc hGr (by have := hmx.size; omega)
     go_upto_region 14 with fail
     go_wp2_with fail
     refine hgv.mono ?_
     rintro e w2 ⟨q, b, A2, n2, c2, rfl, hg2, hx2, hu2, hf2, hq2⟩
     have hR2 := hx2.heap hRx (fun h => h) (by omega)
     unfold pkV
     go_wp2_with (guard_target =~ wpList _ _ _ (_ :: _) _ _; (refine wpList_store_row rfl (.tmp 4) (.tmp 79) 144 rfl (w.heap.size + 1) 0 144 _ _ #[.int .u8 q.pid, .int .u8 q.addr, .int .u8 q.endp, .int .u16 0, .int .u8 0, .int .u8 0, .bool false, .bool false, .int .u8 0, .slice A2 n2 c2] rfl rfl hR2 (by kernel_rfl) (by simp) rfl rfl ?_; intro w5 hZ5 hW5))
     refine ret_cell _ _ _ _ _ rfl rfl rfl hZ5 Tryz.underlying144 rfl (by kernel_rfl) rfl ?_
     have e1 := hg2.wr hW5 (by omega) (by omega) (fun i hi => by have := hol i hi; omega)
     have e2 := ((hmx.step hx2 (fun i e => e)).wr1 hW5 (by omega)).wider (Y := fun i => i = G ∨ tv.ownBlock = some i) (fun i e => .inl e)
     refine ⟨q, b, A2, n2, c2, tv, rfl, ?_, e2, hu2.wrote hW5 (hf2.imp id fun ⟨a, e, hl⟩ => ⟨a, e, by omega⟩), hf2, ?_, fun i h => .inl h⟩
     ·unfold GrS.hearIn; simp [HMI.out]; exact e1
     ·unfold GrS.hearIn; simp [HMI.out]; exact hq2
   ·cases wt with
    | false =>
     go_upto_region 19 with fail
     go_wp2_with (guard_target =~ wpList _ _ _ (_ :: _) _ _; (refine wpList_store_row rfl (.tmp 4) (.tmp 90) 144 rfl (w.heap.size + 1) 0 144 _ _ #[.int .u8 0, .int .u8 0, .int .u8 0, .int .u16 0, .int .u8 0, .int .u8 0, .bool false, .bool false, .int .u8 0, .slice none 0 0] rfl rfl hRx (by kernel_rfl) (by simp) rfl rfl ?_; intro w5 hZ5 hW5))
     refine ret_cell _ _ _ _ _ rfl rfl rfl hZ5 Tryz.underlying144 rfl (by kernel_rfl) rfl ?_
     obtain ⟨e1, e2⟩ := hend w5 hW5
     exact ⟨pk0, false, none, 0, 0, tv, rfl, by unfold GrS.hearIn; simp; exact e1, e2, (D8.nil w5 no).1, .inl rfl, by unfold GrS.hearIn; simp, fun i h => .inl h⟩
    | true =>
     have hw7 : IntKind.i64.wrap ((nx : Int) + 1) = (nx : Int) + 1 := wrap1 hr.2.1
     have g7 := cell_of hGx 7
     have f7 := frozen_of hGx 7
     go_upto_region 9 with fail
     obtain ⟨w3, hw3⟩ : ∃ w3, wc.setCell ⟨G, 7, none⟩ (.int .i64 ((nx : Int) + 1)) = w3 := ⟨_, rfl⟩
     have hW3 : Wrote G wc w3 := by rw [← hw3]; exact (Wrote.refl G wc).setCell 7 _
     have hG3 : w3.heap[G]? = some (.cells #[.int .u8 endp, .bool true, .bool false, .bool tg, .slice aA an ac, .int .i64 (at_ : Int), .slice oA on oc, .int .i64 ((nx : Int) + 1), .bool false, .bool false, tv, .int .i64 (many : Int)] 34 (0, 0)) := by rw [← hw3]; exact setCell_heap hGx 7 _
     rw [hw3]
     clear hw3 g7 f7
     have g3 := cell_of hG3 3
     have f3 := frozen_of hG3 3
     go_upto_region 19 with fail
     obtain ⟨w4, hw4⟩ : ∃ w4, w3.setCell ⟨G, 3, none⟩ (.bool !tg) = w4 := ⟨_, rfl⟩
     have hW4 : Wrote G w3 w4 := by rw [← hw4]; exact (Wrote.refl G w3).setCell 3 _
     have hG4 : w4.heap[G]? = some (.cells #[.int .u8 endp, .bool true, .bool false, .bool !tg, .slice aA an ac, .int .i64 (at_ : Int), .slice oA on oc, .int .i64 ((nx : Int) + 1), .bool false, .bool false, tv, .int .i64 (many : Int)] 34 (0, 0)) := by rw [← hw4]; exact setCell_heap hG3 3 _
     rw [hw4]
     clear hw4 g3 f3
     have hWx := hW3.trans hW4
     have hR4 := (hWx.other (w.heap.size + 1) (by omega)).trans hRx
     go_wp2_with (guard_target =~ wpList _ _ _ (_ :: _) _ _; (refine wpList_store_row rfl (.tmp 4) (.tmp 90) 144 rfl (w.heap.size + 1) 0 144 _ _ #[.int .u8 0, .int .u8 0, .int .u8 0, .int .u16 0, .int .u8 0, .int .u8 0, .bool false, .bool false, .int .u8 0, .slice none 0 0] rfl rfl hR4 (by kernel_rfl) (by simp) rfl rfl ?_; intro w5 hZ5 hW5))
     refine ret_cell _ _ _ _ _ rfl rfl rfl hZ5 Tryz.underlying144 rfl (by kernel_rfl) rfl ?_
     have e0 : GrAt ⟨endp, true, false, ans, aA, an, ac, offs, vs, oA, on, oc⟩ G B0 B1 w4 tv ⟨!tg, at_, nx + 1, false, false, taken, many⟩ := ⟨by unfold grCells; rw [hG4]; simp, own_wg hGr.own hWx (fun i hi => by have := hoe i hi; omega), h.rng, hGr.lists.far (fun i hi => hWx.other i hi.2)⟩
     have e1 := e0.wr hW5 (by omega) (by omega) (fun i hi => by have := hol i hi; omega)
     have hx4 : Mx (fun i => i = G) no w no w4 := ⟨hWx.os.trans hmx.os, hWx.tape.trans hmx.tape, hWx.output.trans hmx.output, by rw [hWx.size]; exact hmx.size, fun i hi hs hx => (hWx.other i hx).trans (hmx.block i hi hs hx), hmx.sub⟩
     have e2 := (hx4.wr1 hW5 (by omega)).wider (Y := fun i => i = G ∨ tv.ownBlock = some i) (fun i e => .inl e)
     refine ⟨pk0, false, none, 0, 0, tv, rfl, ?_, e2, (D8.nil w5 no).1, .inl rfl, ?_, fun i h => .inl h⟩
     ·unfold GrS.hearIn; simp; exact e1
     ·unfold GrS.hearIn; simp
end Go.Proofs.YtiajboiobjfcoaaGreatDoor
