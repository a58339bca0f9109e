/-
  What is proved here: the next answer of the law's device.
  Conditions: what its block and its lists' cells hold.
-/
import Derived.Test.YtiajboiobjfcoaaGreatDoorIHear
namespace Go.Proofs.YtiajboiobjfcoaaGreatDoor
open Go.Proofs Go.RowKit
attribute [local go_sem] lt2 lt3 lt4 lt5
def GrS.ask (K : GrK) (s : GrS) : Int × GrS := (if K.an < s.at_ + 1 then 0 else (K.ans[s.at_]?.getD 0) % 8, { s with at_ := s.at_ + 1 })
theorem GrAt.put {K : GrK} {G B0 B1 : Nat} {w w' : World} {tv : Value} {s s' : GrS} (h : GrAt K G B0 B1 w tv s) (hW : Wrote G w w') (hb : w'.heap[G]? = some (.cells (grCells K tv s') 34 (0, 0))) (ht : s'.taken = s.taken) (hGB : G < B1) : GrAt K G B0 B1 w' tv s' :=
 ⟨hb, by rw [ht]; exact own_wg h.own hW (fun i hi => by have := own_ge h.own i hi; omega), by rw [ht]; exact h.rng, h.lists.far fun i hi => hW.other i hi.2⟩
theorem GrAt.drew {K : GrK} {G B0 B1 : Nat} {w : World} {tv : Value} {s : GrS} (h : GrAt K G B0 B1 w tv s) : GrAt K G B0 B1 w.drew tv s := ⟨h.box, h.own, h.rng, h.lists⟩
theorem Wrote.dr {g : Nat} {w w' : World} (h : Wrote g w w') : Wrote g w w'.drew := ⟨h.os, h.tape, h.output, h.size, h.other⟩
theorem Wrote.drewN {g : Nat} {w w' : World} (h : Wrote g w w') (q : Nat) : Wrote g w (w'.drewN q) := ⟨h.os, h.tape, h.output, h.size, h.other⟩
set_option maxHeartbeats 4000000 in
set_option maxRecDepth 1000000 in
theorem answer_ret (K : GrK) (G B0 B1 : Nat) (tv : Value) (s : GrS) (w : World) (h : GrAt K G B0 B1 w tv s) (hr : s.room) (hGB : G < B1) :
  Calls Tryz.prog 128 #[.pointer (some ⟨G, 0, none⟩)] w fun e w' => e = .returned (.int .u8 (s.ask K).1) ∧ GrAt K G B0 B1 w' tv (s.ask K).2 ∧ Wrote G w w' := by
 obtain ⟨endp, inn, iso, ans, aA, an, ac, offs, vs, oA, on, oc⟩ := K
 obtain ⟨tg, at_, nx, wt, tk, taken, many⟩ := s
 have hbox := h.box
 unfold grCells at hbox
 dsimp only at hbox
 have hr1 : at_ ≤ 1000000000 := hr.1
 have hw1 := wrap1 hr1
 have b5 := cell_of hbox 5
 have f5 := frozen_of hbox 5
 go_enter Tryz.func128, Tryz.ntmps128
 go_upto_region 2 with fail
 obtain ⟨w1, hw1'⟩ : ∃ w1, w.setCell ⟨G, 5, none⟩ (.int .i64 ((at_ : Int) + 1)) = w1 := ⟨_, rfl⟩
 have hW1 : Wrote G w w1 := by rw [← hw1']; exact (Wrote.refl G w).setCell 5 _
 have hB1 : w1.heap[G]? = some (.cells #[.int .u8 endp, .bool inn, .bool iso, .bool tg, .slice aA an ac, .int .i64 ((at_ : Int) + 1), .slice oA on oc, .int .i64 (nx : Int), .bool wt, .bool tk, tv, .int .i64 (many : Int)] 34 (0, 0)) := by rw [← hw1']; exact setCell_heap hbox 5 _
 rw [hw1']
 clear hw1' b5 f5
 have g4 := cell_of hB1 4
 have g5 := cell_of hB1 5
 have hend : GrAt ⟨endp, inn, iso, ans, aA, an, ac, offs, vs, oA, on, oc⟩ G B0 B1 w1 tv ⟨tg, at_ + 1, nx, wt, tk, taken, many⟩ := h.put hW1 (by unfold grCells; rw [hB1]; simp) rfl hGB
 have hl := h.lists.1
 have hl4 := h.lists.2.2.2.1
 dsimp only at hl hl4
 clear h hbox
 have hw2 : IntKind.i64.wrap ((at_ : Int) + 1 - 1) = (at_ : Int) := by rw [IntWalk.i64_in _ (by omega)]; omega
 by_cases hlt : (an : Int) < (at_ : Int) + 1
 ·go_region
  all_goals
   go_wp2_with fail
   go_ret
   refine ⟨?_, hend.drew, hW1.dr⟩
   unfold GrS.ask
   rw [if_pos (by show an < at_ + 1; omega)]
   rfl
 ·have hat : at_ < an := by omega
  rcases hl.2.2.2 with ⟨_, h0, _⟩ | ⟨a, rfl, hc⟩
  ·omega
  have hab : Fx G B0 a.block := by
   rcases hl4 with h0 | ⟨a', e, hl⟩
   ·omega
   ·cases e; exact hl
  obtain ⟨x, hx⟩ : ∃ x, ans[at_]? = some x := ⟨_, List.getElem?_eq_getElem (by have := hl.1; omega)⟩
  have hxr := hl.2.1 x (List.mem_of_getElem? hx)
  have ck := hc at_ hat
  rw [hx] at ck
  have ck1 : w1.cell? (a.add at_) = some (.int .u8 x) := (World.cell?_of_block (w := w) (w' := w1) (a := a.add at_) (by rw [add_block']; exact hW1.other _ hab.2)).trans ck
  have HX := Lib.hid hx
  clear ck hc hx hl hl4
  have hw3 : IntKind.i64.wrap (at_ : Int) = (at_ : Int) := IntWalk.i64_in _ (by omega)
  have q3 : (at_ : Int) < (an : Int) := by omega
  go_region
  all_goals
   go_upto_region 4 with fail
   go_region
   all_goals
    go_wp2_with fail
    go_ret
    refine ⟨?_, hend.drew.drew, hW1.dr.dr⟩
    unfold GrS.ask
    rw [if_neg (by show ¬ an < at_ + 1; omega)]
    dsimp only
    rw [HX.out]
    rfl
end Go.Proofs.YtiajboiobjfcoaaGreatDoor
