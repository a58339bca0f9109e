/-
  What is proved here: what the law's device does with a data packet.
  Conditions: what its block and its lists' cells hold.
-/
import Derived.Test.YtiajboiobjfcoaaGreatDoorIGear
namespace Go.Proofs.YtiajboiobjfcoaaGreatDoor
open Go.Proofs Go.RowKit
attribute [local go_sem] lt2 lt3 lt4 lt5
theorem step_append_run {P : Program} {ops : Array Oper} {o : Oper} {a : Act} {K : Act → World → Prop} {Q : Exit → Act → World → Prop} {E : Prop} {w : World} (hgd : o.guard = none) (s x : Operand) (t : TypeId)
  (ho : o.op = Op.call { callee := Callee.builtin Builtin.append, args := #[s, x], argTypes := #[t, t] })
  (sv xv v' : Value) (w' : World) (hs : a.eval s = sv) (hx : a.eval x = xv) (hrun : (Builtin.append_ #[t, t] o.type #[sv, xv]).run P w = .ok v' w') (h : K (a.put o.dst v') w') :
  if Region.wanted o (yielded ops a.tmps) = true then Oper.wp P o a w K Q else E := by
 have hw : Region.wanted o (yielded ops a.tmps) = true := by simp [Region.wanted, hgd]
 rw [if_pos hw]
 unfold Oper.wp
 simp [execOp, ho, resolve, invoke, builtin, hs, hx, hrun, Result.andThen]
 exact h
theorem nil8 (w : World) (A : Option Addr) (n k : Nat) (hk : n ≤ k) : (Builtin.append_ #[23, 23] 23 #[.slice A n k, .slice none 0 0]).run Tryz.prog w = .ok (.slice A n k) w := by
 obtain ⟨i0, hi, hz0, hz1, hz2⟩ := info_parts info5
 have hul : Tryz.prog.underlying 23 = some (.slice 5) := Tryz.underlying23
 cases A <;> simp [Builtin.append_, run_underlying hul, sizeOf, typeInfo, hi, Builtin.lenOf, run_firstCells_none, storeCells, Sem.run_bind, Result.andThen, hk]
theorem app8 {w : World} {B1 : Nat} {tv : Value} {ys xs : List Int} {A : Option Addr} {n c : Nat} (hown : w.ownsRow B1 5 1 tv ys.length (ys.map (Value.int .u8))) (hu : U8 w A n c xs) (hn : n ≤ 1024) (hy : ys.length ≤ 1000000) (hB : B1 ≤ w.heap.size) :
  ∃ tv' w', (Builtin.append_ #[23, 23] 23 #[tv, .slice A n c]).run Tryz.prog w = .ok tv' w' ∧ w'.ownsRow B1 5 1 tv' (ys ++ xs).length ((ys ++ xs).map (Value.int .u8)) ∧ w.grownBy w' tv.ownBlock ∧ (∀ i, tv'.ownBlock = some i → tv.ownBlock = some i ∨ w.heap.size ≤ i) := by
 have hl := hu.1
 obtain ⟨i0, hi, hz0, hz1, hz2⟩ := info_parts info5
 rcases hu.2.2.2 with ⟨rfl, rfl, rfl⟩ | ⟨a, rfl, hc⟩
 ·have e0 := List.length_eq_zero_iff.1 hl
  subst e0
  obtain ⟨A, m, k, rfl, hk⟩ : ∃ A m k, tv = .slice A m k ∧ m ≤ k := by
   rcases hown.2 with ⟨rfl, _⟩ | ⟨g, cap, cur, rfl, _, _, hc, _⟩
   ·exact ⟨none, 0, 0, rfl, Nat.le_refl _⟩
   ·exact ⟨_, _, cap, rfl, hc⟩
  exact ⟨_, w, nil8 w A m k hk, by simpa using hown, ⟨rfl, rfl, rfl, Nat.le_refl _, fun _ _ _ => rfl⟩, fun i h => .inl h⟩
 ·obtain ⟨tv', w', hr, ho, hg, _, hat⟩ := run_append_own_at (P := Tryz.prog) w B1 23 23 5 i0 (.int .u8 0) 1 1 Tryz.underlying23 hi hz0 hz1 hz2 rfl (by decide) tv _ _ hown a n c (xs.map (Value.int .u8)) (by simp [hl]) (fun j u hj => by
   rw [List.getElem?_map, Option.map_eq_some_iff] at hj
   obtain ⟨x, hx, rfl⟩ := hj
   have hjn : j < n := by rw [← hl]; exact (List.getElem?_eq_some_iff.1 hx).1
   have := hc j hjn
   rw [hx] at this
   exact this) (fun u hu' => by obtain ⟨x, _, rfl⟩ := List.mem_map.1 hu'; rfl) (by unfold maxLen; omega) (by omega) hB
  refine ⟨tv', w', hr, by rw [List.length_append, hl, List.map_append]; exact ho, hg, fun i h => ?_⟩
  rcases hat with hat | hat
  ·exact .inl (by rw [← hat]; exact h)
  ·rw [hat] at h; exact .inr (by have := Option.some.inj h; omega)
def GrS.takeIso (s : GrS) (xs : List Int) : GrS := { s with taken := s.taken ++ xs, many := s.many + 1 }
def TakeEnd (K : GrK) (G B0 B1 : Nat) (tv : Value) (s : GrS) (w : World) (e : Ending) (w' : World) : Prop :=
 ∃ tv', e = .returned (.tuple #[pkV pk0 (.slice none 0 0), .bool false]) ∧ GrAt K G B0 B1 w' tv' s ∧ Mx (fun i => i = G ∨ tv.ownBlock = some i) no w no w' ∧ (∀ i, tv'.ownBlock = some i → tv.ownBlock = some i ∨ w.heap.size ≤ i)
set_option maxHeartbeats 4000000 in
set_option maxRecDepth 1000000 in
theorem take_iso (K : GrK) (hiso : K.iso = true) (G B0 B1 : Nat) (tv : Value) (s : GrS) (p : Pk) (A : Option Addr) (n c : Nat) (w : World) (h : GrAt K G B0 B1 w tv s) (hr : s.room) (hG : B0 ≤ B1) (hGB : G < B1) (hB : B1 ≤ w.heap.size) (hu : U8 w A n c p.data) (hn : n ≤ 1024) :
  Calls Tryz.prog 130 #[.pointer (some ⟨G, 0, none⟩), pkV p (.slice A n c)] w (TakeEnd K G B0 B1 tv (s.takeIso p.data) w) := by
 obtain ⟨endp, inn, iso, ans, aA, an, ac, offs, vs, oA, on, oc⟩ := K
 obtain ⟨tg, at_, nx, wt, tk, taken, many⟩ := s
 obtain ⟨pid, pa, pe, xs⟩ := p
 dsimp only at hiso hu
 subst hiso
 have hbox := h.box
 unfold grCells at hbox
 dsimp only at hbox
 have hw1 := wrap1 hr.2.2.1
 unfold pkV
 dsimp only
 have hb2 : ∀ a b, Below w.heap.size w ((w.alloc a).alloc b) := fun a b => ((Below.refl w.heap.size w).alloc (Nat.le_refl _) a).alloc (by simp) b
 have b2 := fun o o' => cell_of (heap_below hbox (hb2 o o')) 2
 go_enter Tryz.func130, Tryz.ntmps130
 go_upto_region 2 with fail
 obtain ⟨w1, hw1'⟩ : ∃ w1, (w.alloc (.cells #[.int .u8 pid, .int .u8 pa, .int .u8 pe, .int .u16 0, .int .u8 0, .int .u8 0, .bool false, .bool false, .int .u8 0, .slice A n c] 144)).alloc (.cells #[.int .u8 0, .int .u8 0, .int .u8 0, .int .u16 0, .int .u8 0, .int .u8 0, .bool false, .bool false, .int .u8 0, .slice none 0 0] 144) = w1 := ⟨_, rfl⟩
 have hb1 : Below w.heap.size w w1 := by rw [← hw1']; exact hb2 _ _
 have hB1 := heap_below hbox hb1
 have hP1 : w1.heap[w.heap.size]? = some (.cells #[.int .u8 pid, .int .u8 pa, .int .u8 pe, .int .u16 0, .int .u8 0, .int .u8 0, .bool false, .bool false, .int .u8 0, .slice A n c] 144 (0, 0)) := by rw [← hw1']; exact alloc2_0 _ _ _
 have hR1 : w1.heap[w.heap.size + 1]? = some (.cells #[.int .u8 0, .int .u8 0, .int .u8 0, .int .u16 0, .int .u8 0, .int .u8 0, .bool false, .bool false, .int .u8 0, .slice none 0 0] 144 (0, 0)) := by rw [← hw1']; exact alloc2_1 _ _ _
 have hsz1 : w1.heap.size = w.heap.size + 1 + 1 := by rw [← hw1']; simp
 rw [hw1']
 clear hw1' b2 hb2
 have hGl : G < w.heap.size := (Array.getElem?_eq_some_iff.1 hbox).1
 have hO1 := own_below h.own hb1
 dsimp only at hO1
 have hoe := own_ge h.own
 have hol := own_lt h.own
 obtain ⟨tv2, w2, hrun, hown2, hgrow2, hat2⟩ := app8 (w := w1.drew) (xs := xs) (ys := taken) hO1 (hu.below hb1).drew hn hr.2.2.2 (by show B1 ≤ w1.heap.size; omega)
 obtain ⟨A2, m2, k2, rfl⟩ : ∃ A2 m2 k2, tv2 = .slice A2 m2 k2 := by
  rcases hown2.2 with ⟨rfl, _⟩ | ⟨g, cap, cur, rfl, _⟩
  ·exact ⟨none, 0, 0, rfl⟩
  ·exact ⟨_, _, _, rfl⟩
 have HRUN := Lib.hid hrun
 clear hrun
 have b10 := cell_of hB1 10
 have p9 := cell_of hP1 9
 have hG2 := heap_grown (w := w1.drew) hB1 hgrow2 (fun e => by have := hoe _ e; omega)
 have hR2 := heap_grown (w := w1.drew) hR1 hgrow2 (fun e => by have := hol _ e; omega)
 have g10 := cell_of hG2 10
 have f10 := frozen_of hG2 10
 go_region_law (refine step_append_run rfl (.tmp 15) (.tmp 17) 23 rfl _ _ _ _ rfl rfl HRUN.out ?_)
 all_goals
  obtain ⟨w3, hw3⟩ : ∃ w3, w2.setCell ⟨G, 10, none⟩ (.slice A2 m2 k2) = w3 := ⟨_, rfl⟩
  have hW3 : Wrote G w2 w3 := by rw [← hw3]; exact (Wrote.refl G w2).setCell 10 _
  have hG3 : w3.heap[G]? = some (.cells #[.int .u8 endp, .bool inn, .bool true, .bool tg, .slice aA an ac, .int .i64 (at_ : Int), .slice oA on oc, .int .i64 (nx : Int), .bool wt, .bool tk, .slice A2 m2 k2, .int .i64 (many : Int)] 34 (0, 0)) := by rw [← hw3]; exact setCell_heap hG2 10 _
  rw [hw3]
  clear hw3 b10 p9 g10 f10
  have g11 := cell_of hG3 11
  have f11 := frozen_of hG3 11
  go_upto_region 4 with fail
  obtain ⟨w4, hw4⟩ : ∃ w4, w3.setCell ⟨G, 11, none⟩ (.int .i64 ((many : Int) + 1)) = w4 := ⟨_, rfl⟩
  have hW4 : Wrote G w3 w4 := by rw [← hw4]; exact (Wrote.refl G w3).setCell 11 _
  have hG4 : w4.heap[G]? = some (.cells #[.int .u8 endp, .bool inn, .bool true, .bool tg, .slice aA an ac, .int .i64 (at_ : Int), .slice oA on oc, .int .i64 (nx : Int), .bool wt, .bool tk, .slice A2 m2 k2, .int .i64 ((many : Int) + 1)] 34 (0, 0)) := by rw [← hw4]; exact setCell_heap hG3 11 _
  rw [hw4]
  clear hw4 g11 f11
  have hR4 := (hW4.other (w.heap.size + 1) (by omega)).trans ((hW3.other (w.heap.size + 1) (by omega)).trans hR2)
  go_wp2_with (guard_target =~ wpList _ _ _ (_ :: _) _ _; (refine wpList_store_row rfl (.tmp 4) (.tmp 28) 144 rfl (w.heap.size + 1) 0 144 _ _ #[.int .u8 0, .int .u8 0, .int .u8 0, .int .u16 0, .int .u8 0, .int .u8 0, .bool false, .bool false, .int .u8 0, .slice none 0 0] rfl rfl hR4 (by kernel_rfl) (by simp) rfl rfl ?_; intro w5 hZ5 hW5))
  refine ret_cell _ _ _ _ _ rfl rfl rfl hZ5 Tryz.underlying144 rfl (by kernel_rfl) rfl ?_
  have h02 : Below 0 w1.drew w2 := (Below.refl 0 _).grown hgrow2 (Nat.zero_le _) (fun _ _ => Nat.zero_le _)
  have hs2 := hgrow2.size
  have hsz5 : w5.heap.size = w2.heap.size := hW5.size.trans (hW4.size.trans hW3.size)
  have hkeep : ∀ i, i < w.heap.size → i ≠ G → tv.ownBlock ≠ some i → w5.heap[i]? = w.heap[i]? := by
   intro i hi h1 h2
   rw [hW5.other i (by omega), hW4.other i h1, hW3.other i h1, hgrow2.block i (by show i < w1.heap.size; omega) (fun e => h2 e.symm)]
   exact hb1.block i hi
  refine ⟨(.slice A2 m2 k2), rfl, ⟨?_, ?_, ?_, h.lists.far (fun i hi => hkeep i (by have := hi.1; omega) hi.2 (fun e => by have := hoe _ e; have := hi.1; omega))⟩, ⟨?_, ?_, ?_, ?_, fun i hi _ hx => hkeep i hi (fun e => hx (.inl e)) (fun e => hx (.inr e)), fun _ _ h => h⟩, fun i hi => ?_⟩
  ·unfold grCells GrS.takeIso
   rw [hW5.other G (by omega), hG4]
   simp
  ·refine own_wg (own_wg (own_wg hown2 hW3 ?_) hW4 ?_) hW5 ?_
   all_goals
    intro i hi
    rcases hat2 i hi with h' | h'
    ·have := hoe _ h'; have := hol _ h'; omega
    ·have h'' : w1.heap.size ≤ i := h'
     omega
  ·intro x hx
   rcases List.mem_append.1 hx with hx | hx
   ·exact h.rng x hx
   ·exact hu.2.1 x hx
  ·exact hW5.os.trans (hW4.os.trans (hW3.os.trans (h02.os.trans hb1.os)))
  ·exact hW5.tape.trans (hW4.tape.trans (hW3.tape.trans (h02.tape.trans hb1.tape)))
  ·exact hW5.output.trans (hW4.output.trans (hW3.output.trans (h02.output.trans hb1.output)))
  ·have h'' : w1.heap.size ≤ w2.heap.size := hs2
   rw [hsz5]; omega
  ·rcases hat2 i hi with h' | h'
   ·exact .inl h'
   ·have h'' : w1.heap.size ≤ i := h'
    exact .inr (by omega)
end Go.Proofs.YtiajboiobjfcoaaGreatDoor
