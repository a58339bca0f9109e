/-
  What is proved here: what the law's device does with a data packet of a stream.
  Conditions: what its block and its lists' cells hold.
-/
import Derived.Test.YtiajboiobjfcoaaGreatDoorOAns
import Derived.Test.YtiajboiobjfcoaaGreatDoorIHear
import Derived.Test.YtiajboiobjfcoaaGreatDoorIIn
namespace Go.Proofs.YtiajboiobjfcoaaGreatDoor
open Go.Proofs Go.RowKit
attribute [local go_sem] lt2 lt3 lt4 lt5
def GrS.takeB (K : GrK) (s : GrS) (pid : Int) (xs : List Int) : Int × GrS :=
 if decide (pid = 11) ≠ s.tg then (2, s) else
 if (s.ask K).1 = 2 then (14, (s.ask K).2) else if (s.ask K).1 = 1 then (10, (s.ask K).2) else
 (2, { (s.ask K).2 with taken := s.taken ++ xs, many := s.many + 1, tg := !s.tg })
def TakeB (K : GrK) (G B0 B1 : Nat) (tv : Value) (r : Int × GrS) (w : World) (e : Ending) (w' : World) : Prop :=
 ∃ tv', e = .returned (.tuple #[pkV ⟨r.1, 0, 0, []⟩ (.slice none 0 0), .bool true]) ∧ GrAt K G B0 B1 w' tv' r.2 ∧ Mx (fun i => i = G ∨ tv.ownBlock = some i) no w no w' ∧ (∀ i, tv'.ownBlock = some i → tv.ownBlock = some i ∨ w.heap.size ≤ i)
set_option maxHeartbeats 4000000 in
set_option maxRecDepth 1000000 in
theorem take_blk (K : GrK) (hiso : K.iso = false) (G B0 B1 : Nat) (tv : Value) (s : GrS) (p : Pk) (A : Option Addr) (n c : Nat) (w : World) (h : GrAt K G B0 B1 w tv s) (hr : s.room) (hGB : G < B1) (hB : B1 ≤ w.heap.size) (h01 : B0 ≤ B1) (hu : U8 w A n c p.data) (hAG : n = 0 ∨ ∃ a, A = some a ∧ a.block ≠ G) (hn : n ≤ 1024) :
  Calls Tryz.prog 130 #[.pointer (some ⟨G, 0, none⟩), pkV p (.slice A n c)] w (TakeB K G B0 B1 tv (s.takeB K p.pid p.data) w) := by
 obtain ⟨r, hr0⟩ : ∃ r, s.takeB K p.pid p.data = r := ⟨_, rfl⟩
 have HR := Lib.hid hr0
 rw [hr0]
 clear hr0
 obtain ⟨endp, inn, iso, ans, aA, an, ac, offs, vs, oA, on, oc⟩ := K
 obtain ⟨tg, at_, nx, wt, tk, taken, many⟩ := s
 obtain ⟨pid, pa, pe, xs⟩ := p
 dsimp only at hiso hu
 subst hiso
 have hbox := h.box
 unfold grCells at hbox
 dsimp only at hbox
 have hw1 := wrap1 hr.2.2.1
 unfold pkV
 dsimp only
 have hb2 : ∀ a b, Below w.heap.size w ((w.alloc a).alloc b) := fun a b => ((Below.refl w.heap.size w).alloc (Nat.le_refl _) a).alloc (by simp) b
 have b2 := fun o o' => cell_of (heap_below hbox (hb2 o o')) 2
 go_enter Tryz.func130, Tryz.ntmps130
 go_upto_region 5 with fail
 obtain ⟨w1, hw1'⟩ : ∃ w1, (w.alloc (.cells #[.int .u8 pid, .int .u8 pa, .int .u8 pe, .int .u16 0, .int .u8 0, .int .u8 0, .bool false, .bool false, .int .u8 0, .slice A n c] 144)).alloc (.cells #[.int .u8 0, .int .u8 0, .int .u8 0, .int .u16 0, .int .u8 0, .int .u8 0, .bool false, .bool false, .int .u8 0, .slice none 0 0] 144) = w1 := ⟨_, rfl⟩
 have hb1 : Below w.heap.size w w1 := by rw [← hw1']; exact hb2 _ _
 have hB1 := heap_below hbox hb1
 have hP1 : w1.heap[w.heap.size]? = some (.cells #[.int .u8 pid, .int .u8 pa, .int .u8 pe, .int .u16 0, .int .u8 0, .int .u8 0, .bool false, .bool false, .int .u8 0, .slice A n c] 144 (0, 0)) := by rw [← hw1']; exact alloc2_0 _ _ _
 have hR1 : w1.heap[w.heap.size + 1]? = some (.cells #[.int .u8 0, .int .u8 0, .int .u8 0, .int .u16 0, .int .u8 0, .int .u8 0, .bool false, .bool false, .int .u8 0, .slice none 0 0] 144 (0, 0)) := by rw [← hw1']; exact alloc2_1 _ _ _
 have hsz1 : w1.heap.size = w.heap.size + 1 + 1 := by rw [← hw1']; simp
 rw [hw1']
 clear hw1' b2 hb2
 have hGl : G < w.heap.size := (Array.getElem?_eq_some_iff.1 hbox).1
 have hoe := own_ge h.own
 have hol := own_lt h.own
 have p0 := cell_of hP1 0
 have b3 := cell_of hB1 3
 have hG1 : GrAt ⟨endp, inn, false, ans, aA, an, ac, offs, vs, oA, on, oc⟩ G B0 B1 w1 tv ⟨tg, at_, nx, wt, tk, taken, many⟩ :=
  ⟨heap_below h.box hb1, own_below h.own hb1, h.rng, h.lists.far fun i hi => hb1.block i (by have := hi.1; omega)⟩
 have hu1 := hu.below hb1
 have ret : ∀ (w2 w3 : World) (tv' : Value) (r' : Int) (s' : GrS), r = (r', s') → Mx (fun i => i = G ∨ tv.ownBlock = some i) no w no w2 → GrAt ⟨endp, inn, false, ans, aA, an, ac, offs, vs, oA, on, oc⟩ G B0 B1 w2 tv' s' → (∀ i, tv'.ownBlock = some i → tv.ownBlock = some i ∨ w1.heap.size ≤ i) →
   Wrote (w.heap.size + 1) w2 w3 → TakeB ⟨endp, inn, false, ans, aA, an, ac, offs, vs, oA, on, oc⟩ G B0 B1 tv r w (.returned (.tuple #[.agg #[.int .u8 r', .int .u8 0, .int .u8 0, .int .u16 0, .int .u8 0, .int .u8 0, .bool false, .bool false, .int .u8 0, .slice none 0 0], .bool true])) w3 := by
  intro w2 w3 tv' r' s' e hx hg ho hW
  subst e
  exact ⟨tv', rfl, hg.wr hW (by omega) (by omega) (fun i hi => (ho i hi).elim (fun h' => by have := hol _ h'; omega) (fun h' => by omega)), hx.wr1 hW (by omega), fun i hi => (ho i hi).imp id (by omega)⟩
 have hx1 : Mx (fun i => i = G ∨ tv.ownBlock = some i) no w no w1 := (Mx.refl _ _ w).below hb1
 have hu1' : U8 w1.drew A n c xs := hu1.drew
 have hR1g : ∀ {wa}, Wrote G w1.drew wa → wa.heap[w.heap.size + 1]? = some (.cells #[.int .u8 0, .int .u8 0, .int .u8 0, .int .u16 0, .int .u8 0, .int .u8 0, .bool false, .bool false, .int .u8 0, .slice none 0 0] 144 (0, 0)) := fun hW => (hW.other _ (by omega)).trans hR1
 have hP1g : ∀ {wa}, Wrote G w1.drew wa → wa.heap[w.heap.size]? = some (.cells #[.int .u8 pid, .int .u8 pa, .int .u8 pe, .int .u16 0, .int .u8 0, .int .u8 0, .bool false, .bool false, .int .u8 0, .slice A n c] 144 (0, 0)) := fun hW => (hW.other _ (by omega)).trans hP1
 have hu1g : ∀ {wa}, Wrote G w1.drew wa → U8 wa A n c xs := fun hW => hu1'.wrote hW hAG
 have hx1g : ∀ {wa}, Wrote G w1.drew wa → Mx (fun i => i = G ∨ tv.ownBlock = some i) no w no wa := fun hW => ⟨hW.os.trans hx1.os, hW.tape.trans hx1.tape, hW.output.trans hx1.output, by rw [hW.size]; exact hx1.size, fun i hi hn hx => (hW.other i (fun e => hx (.inl e))).trans (hx1.block i hi hn hx), fun _ _ h => h⟩
 have hans := answer_ret _ G B0 B1 tv _ w1.drew hG1.drew hr hGB
 by_cases hp : pid = 11
 all_goals cases tg
 case pos.false =>
  go_region
  all_goals
   have hR : w1.drew.heap[w.heap.size + 1]? = some (.cells #[.int .u8 0, .int .u8 0, .int .u8 0, .int .u16 0, .int .u8 0, .int .u8 0, .bool false, .bool false, .int .u8 0, .slice none 0 0] 144 (0, 0)) := hR1
   go_wp2_with (guard_target =~ wpList _ _ _ (_ :: _) _ _; (refine wpList_store_row rfl (.tmp 4) (.tmp 37) 144 rfl (w.heap.size + 1) 0 144 _ _ #[.int .u8 2, .int .u8 0, .int .u8 0, .int .u16 0, .int .u8 0, .int .u8 0, .bool false, .bool false, .int .u8 0, .slice none 0 0] rfl rfl hR (by kernel_rfl) (by simp) rfl rfl ?_; intro w5 hZ5 hW5))
   refine ret_cell _ _ _ _ _ rfl rfl rfl hZ5 Tryz.underlying144 rfl (by kernel_rfl) rfl ?_
   refine ret w1.drew w5 tv 2 _ ?_ (hx1g (Wrote.refl G _)) hG1.drew (fun i hi => .inl hi) hW5
   rw [← HR.out]
   unfold GrS.takeB
   rw [if_pos (by simp [hp])]
 case neg.true =>
  have hpe : (pid == 11) = false := by simp [hp]
  go_region
  all_goals
   have hR : w1.drew.heap[w.heap.size + 1]? = some (.cells #[.int .u8 0, .int .u8 0, .int .u8 0, .int .u16 0, .int .u8 0, .int .u8 0, .bool false, .bool false, .int .u8 0, .slice none 0 0] 144 (0, 0)) := hR1
   go_wp2_with (guard_target =~ wpList _ _ _ (_ :: _) _ _; (refine wpList_store_row rfl (.tmp 4) (.tmp 37) 144 rfl (w.heap.size + 1) 0 144 _ _ #[.int .u8 2, .int .u8 0, .int .u8 0, .int .u16 0, .int .u8 0, .int .u8 0, .bool false, .bool false, .int .u8 0, .slice none 0 0] rfl rfl hR (by kernel_rfl) (by simp) rfl rfl ?_; intro w5 hZ5 hW5))
   refine ret_cell _ _ _ _ _ rfl rfl rfl hZ5 Tryz.underlying144 rfl (by kernel_rfl) rfl ?_
   refine ret w1.drew w5 tv 2 _ ?_ (hx1g (Wrote.refl G _)) hG1.drew (fun i hi => .inl hi) hW5
   rw [← HR.out]
   unfold GrS.takeB
   rw [if_pos (by simp [hp])]
 case pos.true =>
  go_region
  all_goals
   go_wp2_with fail
   refine hans.mono ?_
   rintro e wa ⟨rfl, hA, hWa⟩
   obtain ⟨av, hav⟩ : ∃ av, (GrS.ask ⟨endp, inn, false, ans, aA, an, ac, offs, vs, oA, on, oc⟩ ⟨true, at_, nx, wt, tk, taken, many⟩).1 = av := ⟨_, rfl⟩
   have hA : GrAt ⟨endp, inn, false, ans, aA, an, ac, offs, vs, oA, on, oc⟩ G B0 B1 wa tv ⟨true, at_ + 1, nx, wt, tk, taken, many⟩ := hA
   rw [hav]
   have HAV := Lib.hid hav
   have HA := Lib.hid hA
   clear hav hA
   have hR := hR1g hWa
   by_cases ha2 : av = 2
   ·subst ha2
    go_wp2_with (guard_target =~ wpList _ _ _ (_ :: _) _ _; (refine wpList_store_row rfl (.tmp 4) (.tmp 42) 144 rfl (w.heap.size + 1) 0 144 _ _ #[.int .u8 14, .int .u8 0, .int .u8 0, .int .u16 0, .int .u8 0, .int .u8 0, .bool false, .bool false, .int .u8 0, .slice none 0 0] rfl rfl hR (by kernel_rfl) (by simp) rfl rfl ?_; intro w5 hZ5 hW5))
    refine ret_cell _ _ _ _ _ rfl rfl rfl hZ5 Tryz.underlying144 rfl (by kernel_rfl) rfl ?_
    refine ret wa w5 tv 14 _ ?_ (hx1g hWa) HA.out (fun i hi => .inl hi) hW5
    rw [← HR.out]
    unfold GrS.takeB
    rw [if_neg (by simp [hp]), if_pos HAV.out]
    rfl
   ·by_cases ha1 : av = 1
    ·subst ha1
     go_wp2_with (guard_target =~ wpList _ _ _ (_ :: _) _ _; (refine wpList_store_row rfl (.tmp 4) (.tmp 45) 144 rfl (w.heap.size + 1) 0 144 _ _ #[.int .u8 10, .int .u8 0, .int .u8 0, .int .u16 0, .int .u8 0, .int .u8 0, .bool false, .bool false, .int .u8 0, .slice none 0 0] rfl rfl hR (by kernel_rfl) (by simp) rfl rfl ?_; intro w5 hZ5 hW5))
     refine ret_cell _ _ _ _ _ rfl rfl rfl hZ5 Tryz.underlying144 rfl (by kernel_rfl) rfl ?_
     refine ret wa w5 tv 10 _ ?_ (hx1g hWa) HA.out (fun i hi => .inl hi) hW5
     rw [← HR.out]
     unfold GrS.takeB
     rw [if_neg (by simp [hp]), if_neg (by rw [HAV.out]; exact ha2), if_pos HAV.out]
     rfl
    ·go_upto_region 12 with fail
     have hwb := (HA.out).box
     unfold grCells at hwb
     dsimp only at hwb
     have hsa : wa.heap.size = w1.heap.size := hWa.size
     have hua := hu1g hWa
     obtain ⟨tv2, w2, hrun, hown2, hgrow2, hat2⟩ := app8 (w := wa.drew) (xs := xs) (ys := taken) (HA.out).drew.own hua.drew hn hr.2.2.2 (by show B1 ≤ wa.heap.size; omega)
     obtain ⟨A2, m2, k2, rfl⟩ : ∃ A2 m2 k2, tv2 = .slice A2 m2 k2 := by
      rcases hown2.2 with ⟨rfl, _⟩ | ⟨g, cap, cur, rfl, _⟩
      ·exact ⟨none, 0, 0, rfl⟩
      ·exact ⟨_, _, _, rfl⟩
     have HRUN := Lib.hid hrun
     clear hrun
     have b10 := cell_of hwb 10
     have hPa := hP1g hWa
     have p9 := cell_of hPa 9
     have hG2 := heap_grown (w := wa.drew) hwb hgrow2 (fun e => by have := hoe _ e; omega)
     have hR2 := heap_grown (w := wa.drew) hR hgrow2 (fun e => by have := hol _ e; omega)
     have g10 := cell_of hG2 10
     have f10 := frozen_of hG2 10
     go_region_law (refine step_append_run rfl (.tmp 50) (.tmp 52) 23 rfl _ _ _ _ rfl rfl HRUN.out ?_)
     all_goals
      obtain ⟨w3, hw3⟩ : ∃ w3, w2.setCell ⟨G, 10, none⟩ (.slice A2 m2 k2) = w3 := ⟨_, rfl⟩
      have hW3 : Wrote G w2 w3 := by rw [← hw3]; exact (Wrote.refl G w2).setCell 10 _
      have hG3 : w3.heap[G]? = some (.cells #[.int .u8 endp, .bool inn, .bool false, .bool true, .slice aA an ac, .int .i64 ((at_ + 1 : Nat) : Int), .slice oA on oc, .int .i64 (nx : Int), .bool wt, .bool tk, .slice A2 m2 k2, .int .i64 (many : Int)] 34 (0, 0)) := by rw [← hw3]; exact setCell_heap hG2 10 _
      rw [hw3]
      clear hw3 b10 p9 g10 f10
      have g11 := cell_of hG3 11
      have f11 := frozen_of hG3 11
      go_upto_region 14 with fail
      obtain ⟨w4, hw4⟩ : ∃ w4, w3.setCell ⟨G, 11, none⟩ (.int .i64 ((many : Int) + 1)) = w4 := ⟨_, rfl⟩
      have hW4 : Wrote G w3 w4 := by rw [← hw4]; exact (Wrote.refl G w3).setCell 11 _
      have hG4 : w4.heap[G]? = some (.cells #[.int .u8 endp, .bool inn, .bool false, .bool true, .slice aA an ac, .int .i64 ((at_ + 1 : Nat) : Int), .slice oA on oc, .int .i64 (nx : Int), .bool wt, .bool tk, .slice A2 m2 k2, .int .i64 ((many : Int) + 1)] 34 (0, 0)) := by rw [← hw4]; exact setCell_heap hG3 11 _
      rw [hw4]
      clear hw4 g11 f11
      have g3 := cell_of hG4 3
      have f3 := frozen_of hG4 3
      go_upto_region 15 with fail
      obtain ⟨w6, hw6⟩ : ∃ w6, w4.setCell ⟨G, 3, none⟩ (.bool false) = w6 := ⟨_, rfl⟩
      have hW6 : Wrote G w4 w6 := by rw [← hw6]; exact (Wrote.refl G w4).setCell 3 _
      have hG6 : w6.heap[G]? = some (.cells #[.int .u8 endp, .bool inn, .bool false, .bool false, .slice aA an ac, .int .i64 ((at_ + 1 : Nat) : Int), .slice oA on oc, .int .i64 (nx : Int), .bool wt, .bool tk, .slice A2 m2 k2, .int .i64 ((many : Int) + 1)] 34 (0, 0)) := by rw [← hw6]; exact setCell_heap hG4 3 _
      rw [hw6]
      clear hw6 g3 f3
      have hW36 := hW3.trans (hW4.trans hW6)
      have hR6 := (hW36.other (w.heap.size + 1) (by omega)).trans hR2
      go_wp2_with (guard_target =~ wpList _ _ _ (_ :: _) _ _; (refine wpList_store_row rfl (.tmp 4) (.tmp 71) 144 rfl (w.heap.size + 1) 0 144 _ _ #[.int .u8 2, .int .u8 0, .int .u8 0, .int .u16 0, .int .u8 0, .int .u8 0, .bool false, .bool false, .int .u8 0, .slice none 0 0] rfl rfl hR6 (by kernel_rfl) (by simp) rfl rfl ?_; intro w5 hZ5 hW5))
      refine ret_cell _ _ _ _ _ rfl rfl rfl hZ5 Tryz.underlying144 rfl (by kernel_rfl) rfl ?_
      have h02 : Below 0 wa.drew w2 := (Below.refl 0 _).grown hgrow2 (Nat.zero_le _) (fun _ _ => Nat.zero_le _)
      have hs2 := hgrow2.size
      have hxa := hx1g hWa
      refine ret w6 w5 (.slice A2 m2 k2) 2 ⟨false, at_ + 1, nx, wt, tk, taken ++ xs, many + 1⟩ ?_ ⟨?_, ?_, ?_, ?_, fun i hi _ hx => ?_, fun _ _ h => h⟩ ⟨?_, ?_, ?_, ?_⟩ (fun i hi => ?_) hW5
      ·rw [← HR.out]
       unfold GrS.takeB
       rw [if_neg (by simp [hp]), if_neg (by rw [HAV.out]; exact ha2), if_neg (by rw [HAV.out]; exact ha1)]
       rfl
      ·exact hW36.os.trans (h02.os.trans hxa.os)
      ·exact hW36.tape.trans (h02.tape.trans hxa.tape)
      ·exact hW36.output.trans (h02.output.trans hxa.output)
      ·have h'' : wa.heap.size ≤ w2.heap.size := hs2
       rw [hW36.size]; omega
      ·rw [hW36.other i (fun e => hx (.inl e)), hgrow2.block i (by show i < wa.heap.size; omega) (fun e => hx (.inr e.symm))]
       exact hxa.block i hi (fun h => h) hx
      ·unfold grCells
       rw [hG6]
       simp
      ·refine own_wg hown2 hW36 ?_
       intro i hi
       rcases hat2 i hi with h' | h'
       ·have := hoe _ h'; omega
       ·have h'' : wa.heap.size ≤ i := h'
        omega
      ·intro x hx
       rcases List.mem_append.1 hx with hx | hx
       ·exact h.rng x hx
       ·exact hu.2.1 x hx
      ·refine (HA.out).lists.far fun i hi => ?_
       rw [hW36.other i hi.2, hgrow2.block i (by show i < wa.heap.size; have := hi.1; omega) (fun e => by have := hoe _ e.symm; have := hi.1; omega)]
       rfl
      ·rcases hat2 i hi with h' | h'
       ·exact .inl h'
       ·have h'' : wa.heap.size ≤ i := h'
        exact .inr (by omega)
 case neg.false =>
  go_region
  all_goals
   go_wp2_with fail
   refine hans.mono ?_
   rintro e wa ⟨rfl, hA, hWa⟩
   obtain ⟨av, hav⟩ : ∃ av, (GrS.ask ⟨endp, inn, false, ans, aA, an, ac, offs, vs, oA, on, oc⟩ ⟨false, at_, nx, wt, tk, taken, many⟩).1 = av := ⟨_, rfl⟩
   have hA : GrAt ⟨endp, inn, false, ans, aA, an, ac, offs, vs, oA, on, oc⟩ G B0 B1 wa tv ⟨false, at_ + 1, nx, wt, tk, taken, many⟩ := hA
   rw [hav]
   have HAV := Lib.hid hav
   have HA := Lib.hid hA
   clear hav hA
   have hR := hR1g hWa
   by_cases ha2 : av = 2
   ·subst ha2
    go_wp2_with (guard_target =~ wpList _ _ _ (_ :: _) _ _; (refine wpList_store_row rfl (.tmp 4) (.tmp 42) 144 rfl (w.heap.size + 1) 0 144 _ _ #[.int .u8 14, .int .u8 0, .int .u8 0, .int .u16 0, .int .u8 0, .int .u8 0, .bool false, .bool false, .int .u8 0, .slice none 0 0] rfl rfl hR (by kernel_rfl) (by simp) rfl rfl ?_; intro w5 hZ5 hW5))
    refine ret_cell _ _ _ _ _ rfl rfl rfl hZ5 Tryz.underlying144 rfl (by kernel_rfl) rfl ?_
    refine ret wa w5 tv 14 _ ?_ (hx1g hWa) HA.out (fun i hi => .inl hi) hW5
    rw [← HR.out]
    unfold GrS.takeB
    rw [if_neg (by simp [hp]), if_pos HAV.out]
    rfl
   ·by_cases ha1 : av = 1
    ·subst ha1
     go_wp2_with (guard_target =~ wpList _ _ _ (_ :: _) _ _; (refine wpList_store_row rfl (.tmp 4) (.tmp 45) 144 rfl (w.heap.size + 1) 0 144 _ _ #[.int .u8 10, .int .u8 0, .int .u8 0, .int .u16 0, .int .u8 0, .int .u8 0, .bool false, .bool false, .int .u8 0, .slice none 0 0] rfl rfl hR (by kernel_rfl) (by simp) rfl rfl ?_; intro w5 hZ5 hW5))
     refine ret_cell _ _ _ _ _ rfl rfl rfl hZ5 Tryz.underlying144 rfl (by kernel_rfl) rfl ?_
     refine ret wa w5 tv 10 _ ?_ (hx1g hWa) HA.out (fun i hi => .inl hi) hW5
     rw [← HR.out]
     unfold GrS.takeB
     rw [if_neg (by simp [hp]), if_neg (by rw [HAV.out]; exact ha2), if_pos HAV.out]
     rfl
    ·go_upto_region 12 with fail
     have hwb := (HA.out).box
     unfold grCells at hwb
     dsimp only at hwb
     have hsa : wa.heap.size = w1.heap.size := hWa.size
     have hua := hu1g hWa
     obtain ⟨tv2, w2, hrun, hown2, hgrow2, hat2⟩ := app8 (w := wa.drew) (xs := xs) (ys := taken) (HA.out).drew.own hua.drew hn hr.2.2.2 (by show B1 ≤ wa.heap.size; omega)
     obtain ⟨A2, m2, k2, rfl⟩ : ∃ A2 m2 k2, tv2 = .slice A2 m2 k2 := by
      rcases hown2.2 with ⟨rfl, _⟩ | ⟨g, cap, cur, rfl, _⟩
      ·exact ⟨none, 0, 0, rfl⟩
      ·exact ⟨_, _, _, rfl⟩
     have HRUN := Lib.hid hrun
     clear hrun
     have b10 := cell_of hwb 10
     have hPa := hP1g hWa
     have p9 := cell_of hPa 9
     have hG2 := heap_grown (w := wa.drew) hwb hgrow2 (fun e => by have := hoe _ e; omega)
     have hR2 := heap_grown (w := wa.drew) hR hgrow2 (fun e => by have := hol _ e; omega)
     have g10 := cell_of hG2 10
     have f10 := frozen_of hG2 10
     go_region_law (refine step_append_run rfl (.tmp 50) (.tmp 52) 23 rfl _ _ _ _ rfl rfl HRUN.out ?_)
     all_goals
      obtain ⟨w3, hw3⟩ : ∃ w3, w2.setCell ⟨G, 10, none⟩ (.slice A2 m2 k2) = w3 := ⟨_, rfl⟩
      have hW3 : Wrote G w2 w3 := by rw [← hw3]; exact (Wrote.refl G w2).setCell 10 _
      have hG3 : w3.heap[G]? = some (.cells #[.int .u8 endp, .bool inn, .bool false, .bool false, .slice aA an ac, .int .i64 ((at_ + 1 : Nat) : Int), .slice oA on oc, .int .i64 (nx : Int), .bool wt, .bool tk, .slice A2 m2 k2, .int .i64 (many : Int)] 34 (0, 0)) := by rw [← hw3]; exact setCell_heap hG2 10 _
      rw [hw3]
      clear hw3 b10 p9 g10 f10
      have g11 := cell_of hG3 11
      have f11 := frozen_of hG3 11
      go_upto_region 14 with fail
      obtain ⟨w4, hw4⟩ : ∃ w4, w3.setCell ⟨G, 11, none⟩ (.int .i64 ((many : Int) + 1)) = w4 := ⟨_, rfl⟩
      have hW4 : Wrote G w3 w4 := by rw [← hw4]; exact (Wrote.refl G w3).setCell 11 _
      have hG4 : w4.heap[G]? = some (.cells #[.int .u8 endp, .bool inn, .bool false, .bool false, .slice aA an ac, .int .i64 ((at_ + 1 : Nat) : Int), .slice oA on oc, .int .i64 (nx : Int), .bool wt, .bool tk, .slice A2 m2 k2, .int .i64 ((many : Int) + 1)] 34 (0, 0)) := by rw [← hw4]; exact setCell_heap hG3 11 _
      rw [hw4]
      clear hw4 g11 f11
      have g3 := cell_of hG4 3
      have f3 := frozen_of hG4 3
      go_upto_region 15 with fail
      obtain ⟨w6, hw6⟩ : ∃ w6, w4.setCell ⟨G, 3, none⟩ (.bool true) = w6 := ⟨_, rfl⟩
      have hW6 : Wrote G w4 w6 := by rw [← hw6]; exact (Wrote.refl G w4).setCell 3 _
      have hG6 : w6.heap[G]? = some (.cells #[.int .u8 endp, .bool inn, .bool false, .bool true, .slice aA an ac, .int .i64 ((at_ + 1 : Nat) : Int), .slice oA on oc, .int .i64 (nx : Int), .bool wt, .bool tk, .slice A2 m2 k2, .int .i64 ((many : Int) + 1)] 34 (0, 0)) := by rw [← hw6]; exact setCell_heap hG4 3 _
      rw [hw6]
      clear hw6 g3 f3
      have hW36 := hW3.trans (hW4.trans hW6)
      have hR6 := (hW36.other (w.heap.size + 1) (by omega)).trans hR2
      go_wp2_with (guard_target =~ wpList _ _ _ (_ :: _) _ _; (refine wpList_store_row rfl (.tmp 4) (.tmp 71) 144 rfl (w.heap.size + 1) 0 144 _ _ #[.int .u8 2, .int .u8 0, .int .u8 0, .int .u16 0, .int .u8 0, .int .u8 0, .bool false, .bool false, .int .u8 0, .slice none 0 0] rfl rfl hR6 (by kernel_rfl) (by simp) rfl rfl ?_; intro w5 hZ5 hW5))
      refine ret_cell _ _ _ _ _ rfl rfl rfl hZ5 Tryz.underlying144 rfl (by kernel_rfl) rfl ?_
      have h02 : Below 0 wa.drew w2 := (Below.refl 0 _).grown hgrow2 (Nat.zero_le _) (fun _ _ => Nat.zero_le _)
      have hs2 := hgrow2.size
      have hxa := hx1g hWa
      refine ret w6 w5 (.slice A2 m2 k2) 2 ⟨true, at_ + 1, nx, wt, tk, taken ++ xs, many + 1⟩ ?_ ⟨?_, ?_, ?_, ?_, fun i hi _ hx => ?_, fun _ _ h => h⟩ ⟨?_, ?_, ?_, ?_⟩ (fun i hi => ?_) hW5
      ·rw [← HR.out]
       unfold GrS.takeB
       rw [if_neg (by simp [hp]), if_neg (by rw [HAV.out]; exact ha2), if_neg (by rw [HAV.out]; exact ha1)]
       rfl
      ·exact hW36.os.trans (h02.os.trans hxa.os)
      ·exact hW36.tape.trans (h02.tape.trans hxa.tape)
      ·exact hW36.output.trans (h02.output.trans hxa.output)
      ·have h'' : wa.heap.size ≤ w2.heap.size := hs2
       rw [hW36.size]; omega
      ·rw [hW36.other i (fun e => hx (.inl e)), hgrow2.block i (by show i < wa.heap.size; omega) (fun e => hx (.inr e.symm))]
       exact hxa.block i hi (fun h => h) hx
      ·unfold grCells
       rw [hG6]
       simp
      ·refine own_wg hown2 hW36 ?_
       intro i hi
       rcases hat2 i hi with h' | h'
       ·have := hoe _ h'; omega
       ·have h'' : wa.heap.size ≤ i := h'
        omega
      ·intro x hx
       rcases List.mem_append.1 hx with hx | hx
       ·exact h.rng x hx
       ·exact hu.2.1 x hx
      ·refine (HA.out).lists.far fun i hi => ?_
       rw [hW36.other i hi.2, hgrow2.block i (by show i < wa.heap.size; have := hi.1; omega) (fun e => by have := hoe _ e.symm; have := hi.1; omega)]
       rfl
      ·rcases hat2 i hi with h' | h'
       ·exact .inl h'
       ·have h'' : wa.heap.size ≤ i := h'
        exact .inr (by omega)
end Go.Proofs.YtiajboiobjfcoaaGreatDoor
