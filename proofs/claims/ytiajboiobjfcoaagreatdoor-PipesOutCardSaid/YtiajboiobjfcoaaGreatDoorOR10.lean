/-
  What is proved here: what the law's region 10 does, OUT, whatever the order of its operations.
  Conditions: what the cells that it reads hold.
-/
import Derived.Test.YtiajboiobjfcoaaGreatDoorOR14
import Derived.Test.YtiajboiobjfcoaaGreatDoorOBeg
namespace Go.Proofs.YtiajboiobjfcoaaGreatDoor
open Go.Proofs Go.RowKit
section
variable {P : Program} {o : Oper} {a : Act} {w : World} {K : Act → World → Prop} {Q : Exit → Act → World → Prop}
theorem op_field {s : TypeId} {x : Operand} {f : Nat} {v : Value} (ho : o.op = .fieldAddr s x f) (hv : (Instr.fieldAt s (a.eval x) f).run P w = .ok v w) (h : K (a.put o.dst v) w) : o.wp P a w K Q := by
 unfold Oper.wp execOp
 simp only [ho, Sem.run_bind, hv, Result.andThen_ok, Sem.run_pure, Oper.upon_value]
 exact h
theorem op_index {t : TypeId} {x y : Operand} {v : Value} (ho : o.op = .indexAddr t x y) (hv : (Instr.indexAt t (a.eval x) (a.eval y)).run P w = .ok v w) (h : K (a.put o.dst v) w) : o.wp P a w K Q := by
 unfold Oper.wp execOp
 simp only [ho, Sem.run_bind, hv, Result.andThen_ok, Sem.run_pure, Oper.upon_value]
 exact h
theorem op_build {t : TypeId} {parts : Array (Nat × Operand)} {v : Value} (ho : o.op = .build t parts) (hv : (Instr.build t (parts.map fun (i, x) => (i, a.eval x))).run P w = .ok v w) (h : K (a.put o.dst v) w) : o.wp P a w K Q := by
 unfold Oper.wp execOp
 simp only [ho, Sem.run_bind, hv, Result.andThen_ok, Sem.run_pure, Oper.upon_value]
 exact h
end
def bx1 (Zw : Array Value) (b : Nat → Bool) (V : Array Value) (A : Nat) : List (Nat × Obj) := if b 13 = true then [(A, .cells (if b 14 = true then V else Zw) 54 (0, 0))] else []
theorem bx1A {Zw : Array Value} {b : Nat → Bool} {V : Array Value} {A : Nat} (h : b 13 = true) : (A, Obj.cells (if b 14 = true then V else Zw) 54 (0, 0)) ∈ bx1 Zw b V A := by
 unfold bx1; rw [if_pos h]; simp
theorem bx1_at {Zw : Array Value} {b : Nat → Bool} {V : Array Value} {A : Nat} (h : b 13 = true) (h' : ¬ b 14 = true) : bx1 Zw b V A = [(A, Obj.cells Zw 54 (0, 0))] := by
 unfold bx1; rw [if_pos h, if_neg h']
theorem bx1_full {Zw : Array Value} {b : Nat → Bool} {V : Array Value} {A : Nat} (h : b 13 = true) (h' : b 14 = true) : bx1 Zw b V A = [(A, Obj.cells V 54 (0, 0))] := by
 unfold bx1; rw [if_pos h, if_pos h']
theorem bx1_eq {Zw : Array Value} {b b' : Nat → Bool} {V V' : Array Value} {A : Nat} (h13 : b' 13 = b 13) (h14 : b' 14 = b 14) (hr : b 14 = true → V' = V) : bx1 Zw b' V' A = bx1 Zw b V A := by
 unfold bx1
 rw [h13, h14]
 by_cases h6 : b 14 = true
 ·rw [hr h6]
 ·rw [if_neg h6, if_neg h6]
def RB (wC : World) (kind per : Int) (tg z : Bool) (Lk : List (List Int)) (V : Array Value) (w : World) (bs : List (Nat × Obj)) : Prop :=
 P0 wC w bs ∧ (∀ p ∈ bs, ∃ cs, p.2 = Obj.cells cs 54 (0, 0)) ∧ ∃ LA lc, V = strV 5 2 false kind 8 per 1 0 1 tg false tg z 0 LA Lk.length lc none 0 0 0 0 false 0 none 0 0 0 ∧ Pl LA Lk.length ∧ PkOn (fun i => wC.heap.size ≤ i ∧ TyOn w i) w LA Lk.length lc Lk
theorem rb_to {wC : World} {kind per : Int} {tg z : Bool} {Lk : List (List Int)} {V : Array Value} {w w' : World} {bs bs' : List (Nat × Obj)} (h : RB wC kind per tg z Lk V w bs) (hp : P0 wC w' bs') (ht : ∀ p ∈ bs', ∃ cs, p.2 = Obj.cells cs 54 (0, 0)) (hk : ∀ i, TyOn w i → w'.heap[i]? = w.heap[i]?) : RB wC kind per tg z Lk V w' bs' := by
 obtain ⟨_, _, LA, lc, e, hpl, hpk⟩ := h
 refine ⟨hp, ht, LA, lc, e, hpl, (hpk.on fun i hi => hk i hi.2).wide fun i hi => ?_⟩
 obtain ⟨cs', t', h1, h2⟩ := id hi.2
 exact ⟨hi.1, cs', t', (hk i hi.2).trans h1, h2⟩
def PhB (wC : World) (kind per : Int) (tg z : Bool) (Lk : List (List Int)) (b : Nat → Bool) (V : Array Value) (w : World) (bs : List (Nat × Obj)) : Prop :=
 if b 9 = true then RB wC kind per tg z Lk V w bs else P0 wC w bs ∧ ∀ p ∈ bs, ∃ cs, p.2 = Obj.cells cs 54 (0, 0)
theorem phb_e0 {wC : World} {kind per : Int} {tg z : Bool} {Lk : List (List Int)} {b : Nat → Bool} {V : Array Value} {w : World} {bs : List (Nat × Obj)} (h9 : ¬ b 9 = true) : PhB wC kind per tg z Lk b V w bs = (P0 wC w bs ∧ ∀ p ∈ bs, ∃ cs, p.2 = Obj.cells cs 54 (0, 0)) := by unfold PhB; rw [if_neg h9]
theorem phb_e1 {wC : World} {kind per : Int} {tg z : Bool} {Lk : List (List Int)} {b : Nat → Bool} {V : Array Value} {w : World} {bs : List (Nat × Obj)} (h9 : b 9 = true) : PhB wC kind per tg z Lk b V w bs = RB wC kind per tg z Lk V w bs := by unfold PhB; rw [if_pos h9]
theorem phb_p0 {wC : World} {kind per : Int} {tg z : Bool} {Lk : List (List Int)} {b : Nat → Bool} {V : Array Value} {w : World} {bs : List (Nat × Obj)} (h : PhB wC kind per tg z Lk b V w bs) : P0 wC w bs ∧ ∀ p ∈ bs, ∃ cs, p.2 = Obj.cells cs 54 (0, 0) := by
 unfold PhB at h
 split at h
 ·exact ⟨h.1, h.2.1⟩
 ·exact h
theorem phb_to {wC : World} {kind per : Int} {tg z : Bool} {Lk : List (List Int)} {b b' : Nat → Bool} {V : Array Value} {w w' : World} {bs bs' : List (Nat × Obj)} (h : PhB wC kind per tg z Lk b V w bs) (h9 : b' 9 = b 9) (hp : P0 wC w' bs') (ht : ∀ p ∈ bs', ∃ cs, p.2 = Obj.cells cs 54 (0, 0)) (hk : ∀ i, TyOn w i → w'.heap[i]? = w.heap[i]?) : PhB wC kind per tg z Lk b' V w' bs' := by
 unfold PhB at h ⊢
 rw [h9]
 split
 ·rw [if_pos (by assumption)] at h
  exact rb_to h hp ht hk
 ·exact ⟨hp, ht⟩
theorem phb_eq {wC : World} {kind per : Int} {tg z : Bool} {Lk : List (List Int)} {b b' : Nat → Bool} {V : Array Value} {w : World} {bs bs' : List (Nat × Obj)} (h9 : b' 9 = b 9) (hb : bs' = bs) (h : PhB wC kind per tg z Lk b V w bs) : PhB wC kind per tg z Lk b' V w bs' := by
 unfold PhB at h ⊢
 rw [h9, hb]
 exact h
def I10 (wC : World) (kind per : Int) (tg z : Bool) (Lk : List (List Int)) (a0 : Act) (X : Nat) (pC Zw : Array Value) (ja : Addr) (jn jc k : Nat) (A1 : Option Addr) (m c : Nat) (b : Nat → Bool) (a : Act) (w : World) : Prop :=
 Fr [40, 41, 42, 43, 44, 45, 46, 47, 48, 49, 39, 50, 51, 8, 9] a0 a ∧ ∃ (V : Array Value) (A : Nat), (b 0 = true → a.eval (.tmp 40) = .agg pC) ∧
  (b 1 = true → a.eval (.tmp 41) = .pointer (some ⟨X, 0, none⟩)) ∧
  (b 2 = true → a.eval (.tmp 42) = .slice (some ja) jn jc) ∧
  (b 3 = true → a.eval (.tmp 43) = .int .i64 (k : Int)) ∧
  (b 4 = true → a.eval (.tmp 44) = .pointer (some (ja.add k))) ∧
  (b 5 = true → a.eval (.tmp 45) = .slice A1 m c) ∧
  (b 6 = true → a.eval (.tmp 46) = .pointer (some ⟨X, 4, none⟩)) ∧
  (b 7 = true → a.eval (.tmp 47) = .bool z) ∧
  (b 8 = true → a.eval (.tmp 48) = .agg #[.int .u8 0, .int .u8 0, .int .u16 0, .int .u16 0, .int .u16 0, .slice A1 m c, .int .i64 0, .bool z, .slice none 0 0, .int .i64 0]) ∧
  (b 9 = true → a.eval (.tmp 49) = .tuple #[.agg V, .int .i64 0]) ∧
  (b 10 = true → a.eval (.tmp 39) = .tuple #[.agg V, .int .i64 0]) ∧
  (b 11 = true → a.eval (.tmp 50) = .agg V) ∧
  (b 12 = true → a.eval (.tmp 51) = .int .i64 0) ∧
  (b 13 = true → a.eval (.tmp 8) = .pointer (some ⟨A, 0, none⟩)) ∧
  (b 15 = true → a.eval (.tmp 9) = .int .i64 0) ∧
  (b 9 = true → b 8 = true) ∧ (b 10 = true → b 9 = true) ∧ (b 11 = true → b 10 = true) ∧ (b 12 = true → b 10 = true) ∧ (b 14 = true → b 13 = true) ∧ (b 14 = true → b 11 = true) ∧ (b 15 = true → b 12 = true) ∧ PhB wC kind per tg z Lk b V w (bx1 Zw b V A)
set_option maxHeartbeats 4000000 in
set_option maxRecDepth 1000000 in
theorem r10 {ops : Array Oper} {Q : Exit → Act → World → Prop} {id : Nat} {a0 : Act} {wC : World} {kind per : Int} {tg z : Bool} {Lk : List (List Int)} {X Pb : Nat} {pC Zw : Array Value} {ja : Addr} {jn jc k : Nat} {A1 : Option Addr} {m c : Nat}
  (hback : edgesBack ops = true) (hn : ops.size = 16)
  (s0 : Sp ops 0 (.load 30 (.tmp 3)) (some 40) [])
  (s1 : Sp ops 1 (.fieldAddr 25 (.tmp 1) 0) (some 41) [])
  (s2 : Sp ops 2 (.load 22 (.tmp 41)) (some 42) [1])
  (s3 : Sp ops 3 (.move (.tmp 7)) (some 43) [])
  (s4 : Sp ops 4 (.indexAddr 22 (.tmp 42) (.tmp 43)) (some 44) [2, 3])
  (s5 : Sp ops 5 (.load 23 (.tmp 44)) (some 45) [4])
  (s6 : Sp ops 6 (.fieldAddr 25 (.tmp 1) 4) (some 46) [])
  (s7 : Sp ops 7 (.load 4 (.tmp 46)) (some 47) [6])
  (s8 : Sp ops 8 (.build 58 #[(1, .tmp 45), (3, .tmp 47)]) (some 48) [5, 7])
  (s9 : Sp ops 9 (.call { callee := .value (.func 10), args := #[.tmp 40, .tmp 48], argTypes := #[30, 58] }) (some 49) [0, 8])
  (s10 : Sp ops 10 (.move (.tmp 49)) (some 39) [9])
  (s11 : Sp ops 11 (.extract (.tmp 39) 0) (some 50) [10])
  (s12 : Sp ops 12 (.extract (.tmp 39) 1) (some 51) [10])
  (s13 : Sp ops 13 (.alloc 54) (some 8) [])
  (s14 : Sp ops 14 (.store 54 (.tmp 8) (.tmp 50)) (none) [13, 11])
  (s15 : Sp ops 15 (.assign (.tmp 51)) (some 9) [12])
  (hsz0 : a0.tmps.size = 207) (e1 : a0.eval (.tmp 1) = .pointer (some ⟨X, 0, none⟩)) (e3 : a0.eval (.tmp 3) = .pointer (some ⟨Pb, 0, none⟩)) (e7 : a0.eval (.tmp 7) = .int .i64 (k : Int))
  (hPb : wC.heap[Pb]? = some (.cells pC 30 (0, 0))) (hpC : pC.size = 11)
  (hZw : Zw = #[.bool false, .int .u8 0, .int .u8 0, .bool false, .int .u8 0, .int .i64 0, .int .i64 0, .int .u8 0, .int .u8 0, .int .u8 0, .bool false, .bool false, .int .u8 0, .int .u8 0, .int .u8 0, .int .u16 0, .int .u16 0, .int .u16 0, .slice none 0 0, .int .i64 0, .bool false, .int .i64 0, .slice none 0 0, .int .i64 0, .int .i64 0, .bool false, .int .u8 0, .int .i64 0, .bool false, .slice none 0 0, .bool false, .int .i64 0, .slice none 0 0, .slice none 0 0, .int .i64 0, .int .i64 0, .bool false, .int .i64 0, .bool false, .int .u8 0, .int .i64 0, .slice none 0 0, .int .i64 0, .int .i64 0, .slice none 0 0, .slice none 0 0, .int .i64 0])
  (hX0 : wC.cell? ⟨X, 0, none⟩ = some (.slice (some ja) jn jc)) (hX4 : wC.cell? ⟨X, 4, none⟩ = some (.bool z)) (hjk : wC.cell? (ja.add k) = some (.slice A1 m c)) (hk : k < jn)
  (hbeg : ∀ w : World, Below wC.heap.size wC w → Calls Tryz.prog 10 #[.agg pC, .agg #[.int .u8 0, .int .u8 0, .int .u16 0, .int .u16 0, .int .u16 0, .slice A1 m c, .int .i64 0, .bool z, .slice none 0 0, .int .i64 0]] w (BegStr kind per tg z Lk w))
  (hQ : ∀ (a : Act) (w : World) (V : Array Value) (A : Nat), Fr [40, 41, 42, 43, 44, 45, 46, 47, 48, 49, 39, 50, 51, 8, 9] a0 a → a.eval (.tmp 8) = .pointer (some ⟨A, 0, none⟩) → a.eval (.tmp 9) = .int .i64 0 → RB wC kind per tg z Lk V w [(A, .cells V 54 (0, 0))] → Q .normal a w) :
  (Code.region id ops true).wp Tryz.prog Q a0 wC := by
 have hfa0 : ∀ w : World, (Instr.fieldAt 25 (Value.pointer (some ⟨X, 0, none⟩)) 0).run Tryz.prog w = .ok (.pointer (some ⟨X, 0, none⟩)) w := by
  intro w
  simp [go_sem]
 have hfa4 : ∀ w : World, (Instr.fieldAt 25 (Value.pointer (some ⟨X, 0, none⟩)) 4).run Tryz.prog w = .ok (.pointer (some ⟨X, 4, none⟩)) w := by
  intro w
  simp [go_sem]
 have hld2 : ∀ w : World, Below wC.heap.size wC w → (Instr.loadAt 22 (Value.pointer (some ⟨X, 0, none⟩))).run Tryz.prog w = .ok (.slice (some ja) jn jc) w := by
  intro w hb
  have h := (hb.cell (World.block_lt_of_cell? _ _ hX0)).trans hX0
  simp [go_sem, h]
 have hld7 : ∀ w : World, Below wC.heap.size wC w → (Instr.loadAt 4 (Value.pointer (some ⟨X, 4, none⟩))).run Tryz.prog w = .ok (.bool z) w := by
  intro w hb
  have h := (hb.cell (World.block_lt_of_cell? _ _ hX4)).trans hX4
  simp [go_sem, h]
 have hld5 : ∀ w : World, Below wC.heap.size wC w → (Instr.loadAt 23 (Value.pointer (some (ja.add k)))).run Tryz.prog w = .ok (.slice A1 m c) w := by
  intro w hb
  have h := (hb.cell (World.block_lt_of_cell? _ _ hjk)).trans hjk
  simp [go_sem, h]
 have q1 : (k : Int) < (jn : Int) := by omega
 have hix : ∀ w : World, (Instr.indexAt 22 (.slice (some ja) jn jc) (.int .i64 (k : Int))).run Tryz.prog w = .ok (.pointer (some (ja.add k))) w := by
  intro w
  simp [go_sem, q1]
 have hbd : ∀ w : World, (Instr.build 58 #[(1, .slice A1 m c), (3, .bool z)]).run Tryz.prog w = .ok (.agg #[.int .u8 0, .int .u8 0, .int .u16 0, .int .u16 0, .int .u16 0, .slice A1 m c, .int .i64 0, .bool z, .slice none 0 0, .int .i64 0]) w := by
  intro w
  exact run_build w _ _ _ rfl
 refine region_inv (by kernel_rfl) hback (I10 wC kind per tg z Lk a0 X pC Zw ja jn jc k A1 m c) ?_ ?_ ?_
 ·refine ⟨Fr.refl _ _, #[], 0, (fun h => nomatch h), (fun h => nomatch h), (fun h => nomatch h), (fun h => nomatch h), (fun h => nomatch h), (fun h => nomatch h), (fun h => nomatch h), (fun h => nomatch h), (fun h => nomatch h), (fun h => nomatch h), (fun h => nomatch h), (fun h => nomatch h), (fun h => nomatch h), (fun h => nomatch h), (fun h => nomatch h), (fun h => nomatch h), (fun h => nomatch h), (fun h => nomatch h), (fun h => nomatch h), (fun h => nomatch h), (fun h => nomatch h), (fun h => nomatch h), ?_⟩
  exact ⟨⟨(Below.refl _ _).drew, fun p hp => nomatch hp⟩, fun p hp => nomatch hp⟩
 rotate_left
 ·rintro b a w hall ⟨hF, V, A, c0, c1, c2, c3, c4, c5, c6, c7, c8, c9, c10, c11, c12, c13, c15, k9_8, k10_9, k11_10, k12_10, k14_13, k14_11, k15_12, hw⟩
  rw [hn] at hall
  refine hQ a w V A hF (c13 (hall 13 (by decide))) (c15 (hall 15 (by decide))) ?_
  unfold PhB bx1 at hw
  rw [hall 9 (by decide), hall 13 (by decide), hall 14 (by decide)] at hw
  exact hw
 rintro b a w i o ho hb he ⟨hF, V, A, c0, c1, c2, c3, c4, c5, c6, c7, c8, c9, c10, c11, c12, c13, c15, k9_8, k10_9, k11_10, k12_10, k14_13, k14_11, k15_12, hw⟩
 have hi : i < 16 := by rw [← hn]; exact (Array.getElem?_eq_some_iff.1 ho).1
 have hsz : a.tmps.size = 207 := hF.size.trans hsz0
 have hw0 := phb_p0 hw
 obtain rfl | rfl | rfl | rfl | rfl | rfl | rfl | rfl | rfl | rfl | rfl | rfl | rfl | rfl | rfl | rfl : i = 0 ∨ i = 1 ∨ i = 2 ∨ i = 3 ∨ i = 4 ∨ i = 5 ∨ i = 6 ∨ i = 7 ∨ i = 8 ∨ i = 9 ∨ i = 10 ∨ i = 11 ∨ i = 12 ∨ i = 13 ∨ i = 14 ∨ i = 15 := by omega
 ·obtain ⟨hop, hd, hg, hp⟩ := s0.get ho he
  refine wpOp_plain ho hg ?_
  refine op_load hop (by rw [hF.eval (by decide), e3]; exact run_loadAt_row ((hw0.1.1.block _ (Array.getElem?_eq_some_iff.1 hPb).1).trans hPb) Tryz.underlying30 rfl (by rw [hpC]; kernel_rfl)) ?_
  rw [hd]
  exact ⟨hF.put (by decide) _, V, A, fun _ => (eval_same (by omega)).trans (rfl), fun hb' => (eval_other (by decide)).trans (c1 hb'), fun hb' => (eval_other (by decide)).trans (c2 hb'), fun hb' => (eval_other (by decide)).trans (c3 hb'), fun hb' => (eval_other (by decide)).trans (c4 hb'), fun hb' => (eval_other (by decide)).trans (c5 hb'), fun hb' => (eval_other (by decide)).trans (c6 hb'), fun hb' => (eval_other (by decide)).trans (c7 hb'), fun hb' => (eval_other (by decide)).trans (c8 hb'), fun hb' => (eval_other (by decide)).trans (c9 hb'), fun hb' => (eval_other (by decide)).trans (c10 hb'), fun hb' => (eval_other (by decide)).trans (c11 hb'), fun hb' => (eval_other (by decide)).trans (c12 hb'), fun hb' => (eval_other (by decide)).trans (c13 hb'), fun hb' => (eval_other (by decide)).trans (c15 hb'), fun hb' => k9_8 hb', fun hb' => k10_9 hb', fun hb' => k11_10 hb', fun hb' => k12_10 hb', fun hb' => k14_13 hb', fun hb' => k14_11 hb', fun hb' => k15_12 hb', phb_eq rfl (bx1_eq rfl rfl (fun _ => rfl)) hw⟩
 ·obtain ⟨hop, hd, hg, hp⟩ := s1.get ho he
  refine wpOp_plain ho hg ?_
  refine op_field hop (by rw [hF.eval (by decide), e1]; exact hfa0 w) ?_
  rw [hd]
  exact ⟨hF.put (by decide) _, V, A, fun hb' => (eval_other (by decide)).trans (c0 hb'), fun _ => (eval_same (by omega)).trans (rfl), fun hb' => (eval_other (by decide)).trans (c2 hb'), fun hb' => (eval_other (by decide)).trans (c3 hb'), fun hb' => (eval_other (by decide)).trans (c4 hb'), fun hb' => (eval_other (by decide)).trans (c5 hb'), fun hb' => (eval_other (by decide)).trans (c6 hb'), fun hb' => (eval_other (by decide)).trans (c7 hb'), fun hb' => (eval_other (by decide)).trans (c8 hb'), fun hb' => (eval_other (by decide)).trans (c9 hb'), fun hb' => (eval_other (by decide)).trans (c10 hb'), fun hb' => (eval_other (by decide)).trans (c11 hb'), fun hb' => (eval_other (by decide)).trans (c12 hb'), fun hb' => (eval_other (by decide)).trans (c13 hb'), fun hb' => (eval_other (by decide)).trans (c15 hb'), fun hb' => k9_8 hb', fun hb' => k10_9 hb', fun hb' => k11_10 hb', fun hb' => k12_10 hb', fun hb' => k14_13 hb', fun hb' => k14_11 hb', fun hb' => k15_12 hb', phb_eq rfl (bx1_eq rfl rfl (fun _ => rfl)) hw⟩
 ·obtain ⟨hop, hd, hg, hp⟩ := s2.get ho he
  have p1 := hp 1 (by simp)
  refine wpOp_plain ho hg ?_
  refine op_load hop (by rw [c1 p1]; exact hld2 w hw0.1.1) ?_
  rw [hd]
  exact ⟨hF.put (by decide) _, V, A, fun hb' => (eval_other (by decide)).trans (c0 hb'), fun hb' => (eval_other (by decide)).trans (c1 hb'), fun _ => (eval_same (by omega)).trans (rfl), fun hb' => (eval_other (by decide)).trans (c3 hb'), fun hb' => (eval_other (by decide)).trans (c4 hb'), fun hb' => (eval_other (by decide)).trans (c5 hb'), fun hb' => (eval_other (by decide)).trans (c6 hb'), fun hb' => (eval_other (by decide)).trans (c7 hb'), fun hb' => (eval_other (by decide)).trans (c8 hb'), fun hb' => (eval_other (by decide)).trans (c9 hb'), fun hb' => (eval_other (by decide)).trans (c10 hb'), fun hb' => (eval_other (by decide)).trans (c11 hb'), fun hb' => (eval_other (by decide)).trans (c12 hb'), fun hb' => (eval_other (by decide)).trans (c13 hb'), fun hb' => (eval_other (by decide)).trans (c15 hb'), fun hb' => k9_8 hb', fun hb' => k10_9 hb', fun hb' => k11_10 hb', fun hb' => k12_10 hb', fun hb' => k14_13 hb', fun hb' => k14_11 hb', fun hb' => k15_12 hb', phb_eq rfl (bx1_eq rfl rfl (fun _ => rfl)) hw⟩
 ·obtain ⟨hop, hd, hg, hp⟩ := s3.get ho he
  refine wpOp_plain ho hg ?_
  refine op_move (.inl hop) ?_
  rw [hd]
  exact ⟨hF.put (by decide) _, V, A, fun hb' => (eval_other (by decide)).trans (c0 hb'), fun hb' => (eval_other (by decide)).trans (c1 hb'), fun hb' => (eval_other (by decide)).trans (c2 hb'), fun _ => (eval_same (by omega)).trans ((hF.eval (by decide)).trans e7), fun hb' => (eval_other (by decide)).trans (c4 hb'), fun hb' => (eval_other (by decide)).trans (c5 hb'), fun hb' => (eval_other (by decide)).trans (c6 hb'), fun hb' => (eval_other (by decide)).trans (c7 hb'), fun hb' => (eval_other (by decide)).trans (c8 hb'), fun hb' => (eval_other (by decide)).trans (c9 hb'), fun hb' => (eval_other (by decide)).trans (c10 hb'), fun hb' => (eval_other (by decide)).trans (c11 hb'), fun hb' => (eval_other (by decide)).trans (c12 hb'), fun hb' => (eval_other (by decide)).trans (c13 hb'), fun hb' => (eval_other (by decide)).trans (c15 hb'), fun hb' => k9_8 hb', fun hb' => k10_9 hb', fun hb' => k11_10 hb', fun hb' => k12_10 hb', fun hb' => k14_13 hb', fun hb' => k14_11 hb', fun hb' => k15_12 hb', phb_eq rfl (bx1_eq rfl rfl (fun _ => rfl)) hw⟩
 ·obtain ⟨hop, hd, hg, hp⟩ := s4.get ho he
  have p2 := hp 2 (by simp)
  have p3 := hp 3 (by simp)
  refine wpOp_plain ho hg ?_
  refine op_index hop (by rw [c2 p2, c3 p3]; exact hix w) ?_
  rw [hd]
  exact ⟨hF.put (by decide) _, V, A, fun hb' => (eval_other (by decide)).trans (c0 hb'), fun hb' => (eval_other (by decide)).trans (c1 hb'), fun hb' => (eval_other (by decide)).trans (c2 hb'), fun hb' => (eval_other (by decide)).trans (c3 hb'), fun _ => (eval_same (by omega)).trans (rfl), fun hb' => (eval_other (by decide)).trans (c5 hb'), fun hb' => (eval_other (by decide)).trans (c6 hb'), fun hb' => (eval_other (by decide)).trans (c7 hb'), fun hb' => (eval_other (by decide)).trans (c8 hb'), fun hb' => (eval_other (by decide)).trans (c9 hb'), fun hb' => (eval_other (by decide)).trans (c10 hb'), fun hb' => (eval_other (by decide)).trans (c11 hb'), fun hb' => (eval_other (by decide)).trans (c12 hb'), fun hb' => (eval_other (by decide)).trans (c13 hb'), fun hb' => (eval_other (by decide)).trans (c15 hb'), fun hb' => k9_8 hb', fun hb' => k10_9 hb', fun hb' => k11_10 hb', fun hb' => k12_10 hb', fun hb' => k14_13 hb', fun hb' => k14_11 hb', fun hb' => k15_12 hb', phb_eq rfl (bx1_eq rfl rfl (fun _ => rfl)) hw⟩
 ·obtain ⟨hop, hd, hg, hp⟩ := s5.get ho he
  have p4 := hp 4 (by simp)
  refine wpOp_plain ho hg ?_
  refine op_load hop (by rw [c4 p4]; exact hld5 w hw0.1.1) ?_
  rw [hd]
  exact ⟨hF.put (by decide) _, V, A, fun hb' => (eval_other (by decide)).trans (c0 hb'), fun hb' => (eval_other (by decide)).trans (c1 hb'), fun hb' => (eval_other (by decide)).trans (c2 hb'), fun hb' => (eval_other (by decide)).trans (c3 hb'), fun hb' => (eval_other (by decide)).trans (c4 hb'), fun _ => (eval_same (by omega)).trans (rfl), fun hb' => (eval_other (by decide)).trans (c6 hb'), fun hb' => (eval_other (by decide)).trans (c7 hb'), fun hb' => (eval_other (by decide)).trans (c8 hb'), fun hb' => (eval_other (by decide)).trans (c9 hb'), fun hb' => (eval_other (by decide)).trans (c10 hb'), fun hb' => (eval_other (by decide)).trans (c11 hb'), fun hb' => (eval_other (by decide)).trans (c12 hb'), fun hb' => (eval_other (by decide)).trans (c13 hb'), fun hb' => (eval_other (by decide)).trans (c15 hb'), fun hb' => k9_8 hb', fun hb' => k10_9 hb', fun hb' => k11_10 hb', fun hb' => k12_10 hb', fun hb' => k14_13 hb', fun hb' => k14_11 hb', fun hb' => k15_12 hb', phb_eq rfl (bx1_eq rfl rfl (fun _ => rfl)) hw⟩
 ·obtain ⟨hop, hd, hg, hp⟩ := s6.get ho he
  refine wpOp_plain ho hg ?_
  refine op_field hop (by rw [hF.eval (by decide), e1]; exact hfa4 w) ?_
  rw [hd]
  exact ⟨hF.put (by decide) _, V, A, fun hb' => (eval_other (by decide)).trans (c0 hb'), fun hb' => (eval_other (by decide)).trans (c1 hb'), fun hb' => (eval_other (by decide)).trans (c2 hb'), fun hb' => (eval_other (by decide)).trans (c3 hb'), fun hb' => (eval_other (by decide)).trans (c4 hb'), fun hb' => (eval_other (by decide)).trans (c5 hb'), fun _ => (eval_same (by omega)).trans (rfl), fun hb' => (eval_other (by decide)).trans (c7 hb'), fun hb' => (eval_other (by decide)).trans (c8 hb'), fun hb' => (eval_other (by decide)).trans (c9 hb'), fun hb' => (eval_other (by decide)).trans (c10 hb'), fun hb' => (eval_other (by decide)).trans (c11 hb'), fun hb' => (eval_other (by decide)).trans (c12 hb'), fun hb' => (eval_other (by decide)).trans (c13 hb'), fun hb' => (eval_other (by decide)).trans (c15 hb'), fun hb' => k9_8 hb', fun hb' => k10_9 hb', fun hb' => k11_10 hb', fun hb' => k12_10 hb', fun hb' => k14_13 hb', fun hb' => k14_11 hb', fun hb' => k15_12 hb', phb_eq rfl (bx1_eq rfl rfl (fun _ => rfl)) hw⟩
 ·obtain ⟨hop, hd, hg, hp⟩ := s7.get ho he
  have p6 := hp 6 (by simp)
  refine wpOp_plain ho hg ?_
  refine op_load hop (by rw [c6 p6]; exact hld7 w hw0.1.1) ?_
  rw [hd]
  exact ⟨hF.put (by decide) _, V, A, fun hb' => (eval_other (by decide)).trans (c0 hb'), fun hb' => (eval_other (by decide)).trans (c1 hb'), fun hb' => (eval_other (by decide)).trans (c2 hb'), fun hb' => (eval_other (by decide)).trans (c3 hb'), fun hb' => (eval_other (by decide)).trans (c4 hb'), fun hb' => (eval_other (by decide)).trans (c5 hb'), fun hb' => (eval_other (by decide)).trans (c6 hb'), fun _ => (eval_same (by omega)).trans (rfl), fun hb' => (eval_other (by decide)).trans (c8 hb'), fun hb' => (eval_other (by decide)).trans (c9 hb'), fun hb' => (eval_other (by decide)).trans (c10 hb'), fun hb' => (eval_other (by decide)).trans (c11 hb'), fun hb' => (eval_other (by decide)).trans (c12 hb'), fun hb' => (eval_other (by decide)).trans (c13 hb'), fun hb' => (eval_other (by decide)).trans (c15 hb'), fun hb' => k9_8 hb', fun hb' => k10_9 hb', fun hb' => k11_10 hb', fun hb' => k12_10 hb', fun hb' => k14_13 hb', fun hb' => k14_11 hb', fun hb' => k15_12 hb', phb_eq rfl (bx1_eq rfl rfl (fun _ => rfl)) hw⟩
 ·obtain ⟨hop, hd, hg, hp⟩ := s8.get ho he
  have p5 := hp 5 (by simp)
  have p7 := hp 7 (by simp)
  refine wpOp_plain ho hg ?_
  refine op_build hop (by rw [show (#[(1, Operand.tmp 45), (3, Operand.tmp 47)] : Array (Nat × Operand)).map (fun (i, x) => (i, a.eval x)) = #[(1, a.eval (.tmp 45)), (3, a.eval (.tmp 47))] from by simp, c5 p5, c7 p7]; exact hbd w) ?_
  rw [hd]
  exact ⟨hF.put (by decide) _, V, A, fun hb' => (eval_other (by decide)).trans (c0 hb'), fun hb' => (eval_other (by decide)).trans (c1 hb'), fun hb' => (eval_other (by decide)).trans (c2 hb'), fun hb' => (eval_other (by decide)).trans (c3 hb'), fun hb' => (eval_other (by decide)).trans (c4 hb'), fun hb' => (eval_other (by decide)).trans (c5 hb'), fun hb' => (eval_other (by decide)).trans (c6 hb'), fun hb' => (eval_other (by decide)).trans (c7 hb'), fun _ => (eval_same (by omega)).trans (rfl), fun hb' => (eval_other (by decide)).trans (c9 hb'), fun hb' => (eval_other (by decide)).trans (c10 hb'), fun hb' => (eval_other (by decide)).trans (c11 hb'), fun hb' => (eval_other (by decide)).trans (c12 hb'), fun hb' => (eval_other (by decide)).trans (c13 hb'), fun hb' => (eval_other (by decide)).trans (c15 hb'), fun _ => rfl, fun hb' => k10_9 hb', fun hb' => k11_10 hb', fun hb' => k12_10 hb', fun hb' => k14_13 hb', fun hb' => k14_11 hb', fun hb' => k15_12 hb', phb_eq rfl (bx1_eq rfl rfl (fun _ => rfl)) hw⟩
 ·obtain ⟨hop, hd, hg, hp⟩ := s9.get ho he
  have p0 := hp 0 (by simp)
  have p8 := hp 8 (by simp)
  refine wpOp_plain ho hg ?_
  have n9 : ¬ b 9 = true := by simp [hb]
  rw [phb_e0 n9] at hw
  refine op_any (n := .enter 10 #[.agg pC, .agg #[.int .u8 0, .int .u8 0, .int .u16 0, .int .u16 0, .int .u16 0, .slice A1 m c, .int .i64 0, .bool z, .slice none 0 0, .int .i64 0]]) (w' := w) (by rw [show execOp a.eval o = callFunc 10 (#[] ++ (#[.tmp 40, .tmp 48] : Array Operand).map a.eval ++ #[]) from by unfold execOp; rw [hop]; rfl, Go.Sy.run_callFunc (Go.Sy.callable plain (by kernel_rfl))]; simp [c0 p0, c8 p8]) ?_
  rw [Oper.upon_enter]
  refine (hbeg w hw.1.1).mono ?_
  rintro e w' ⟨LA, lc, rfl, hbel, hpl, hpk⟩
  dsimp only
  rw [hd]
  have hp2 : P0 wC w' (bx1 Zw b V A) := ⟨hw.1.1.trans (hbel.mono hw.1.1.size), hw.1.2.below hbel⟩
  have hrb : RB wC kind per tg z Lk (strV 5 2 false kind 8 per 1 0 1 tg false tg z 0 LA Lk.length lc none 0 0 0 0 false 0 none 0 0 0) w' (bx1 Zw b V A) := ⟨hp2, hw.2, LA, lc, rfl, hpl, hpk.wide fun i hi => ⟨Nat.le_trans hw.1.1.size hi.1, hi.2⟩⟩
  have hbx : bx1 Zw (fun j => if j = 9 then true else b j) (strV 5 2 false kind 8 per 1 0 1 tg false tg z 0 LA Lk.length lc none 0 0 0 0 false 0 none 0 0 0) A = bx1 Zw b V A := bx1_eq rfl rfl (fun h => absurd (k10_9 (k11_10 (k14_11 h))) n9)
  rw [← hbx] at hrb
  exact ⟨hF.put (by decide) _, _, A, fun hb' => (eval_other (by decide)).trans (c0 hb'), fun hb' => (eval_other (by decide)).trans (c1 hb'), fun hb' => (eval_other (by decide)).trans (c2 hb'), fun hb' => (eval_other (by decide)).trans (c3 hb'), fun hb' => (eval_other (by decide)).trans (c4 hb'), fun hb' => (eval_other (by decide)).trans (c5 hb'), fun hb' => (eval_other (by decide)).trans (c6 hb'), fun hb' => (eval_other (by decide)).trans (c7 hb'), fun hb' => (eval_other (by decide)).trans (c8 hb'), fun _ => (eval_same (by omega)).trans (rfl), fun hb' => absurd (k10_9 hb') (by simp [hb]), fun hb' => absurd (k10_9 (k11_10 hb')) (by simp [hb]), fun hb' => absurd (k10_9 (k12_10 hb')) (by simp [hb]), fun hb' => (eval_other (by decide)).trans (c13 hb'), fun hb' => (eval_other (by decide)).trans (c15 hb'), fun _ => p8, fun _ => rfl, fun hb' => k11_10 hb', fun hb' => k12_10 hb', fun hb' => k14_13 hb', fun hb' => k14_11 hb', fun hb' => k15_12 hb', (by rw [phb_e1 (b := fun j => if j = 9 then true else b j) rfl]; exact hrb)⟩
 ·obtain ⟨hop, hd, hg, hp⟩ := s10.get ho he
  have p9 := hp 9 (by simp)
  refine wpOp_plain ho hg ?_
  refine op_move (.inl hop) ?_
  rw [hd]
  exact ⟨hF.put (by decide) _, V, A, fun hb' => (eval_other (by decide)).trans (c0 hb'), fun hb' => (eval_other (by decide)).trans (c1 hb'), fun hb' => (eval_other (by decide)).trans (c2 hb'), fun hb' => (eval_other (by decide)).trans (c3 hb'), fun hb' => (eval_other (by decide)).trans (c4 hb'), fun hb' => (eval_other (by decide)).trans (c5 hb'), fun hb' => (eval_other (by decide)).trans (c6 hb'), fun hb' => (eval_other (by decide)).trans (c7 hb'), fun hb' => (eval_other (by decide)).trans (c8 hb'), fun hb' => (eval_other (by decide)).trans (c9 hb'), fun _ => (eval_same (by omega)).trans (c9 p9), fun hb' => (eval_other (by decide)).trans (c11 hb'), fun hb' => (eval_other (by decide)).trans (c12 hb'), fun hb' => (eval_other (by decide)).trans (c13 hb'), fun hb' => (eval_other (by decide)).trans (c15 hb'), fun hb' => k9_8 hb', fun _ => p9, fun _ => rfl, fun _ => rfl, fun hb' => k14_13 hb', fun hb' => k14_11 hb', fun hb' => k15_12 hb', phb_eq rfl (bx1_eq rfl rfl (fun _ => rfl)) hw⟩
 ·obtain ⟨hop, hd, hg, hp⟩ := s11.get ho he
  have p10 := hp 10 (by simp)
  refine wpOp_plain ho hg ?_
  refine op_any (n := .value (.agg V)) (by unfold execOp; simp only [hop]; rw [c10 p10]; rfl) ?_
  rw [Oper.upon_value, hd]
  exact ⟨hF.put (by decide) _, V, A, fun hb' => (eval_other (by decide)).trans (c0 hb'), fun hb' => (eval_other (by decide)).trans (c1 hb'), fun hb' => (eval_other (by decide)).trans (c2 hb'), fun hb' => (eval_other (by decide)).trans (c3 hb'), fun hb' => (eval_other (by decide)).trans (c4 hb'), fun hb' => (eval_other (by decide)).trans (c5 hb'), fun hb' => (eval_other (by decide)).trans (c6 hb'), fun hb' => (eval_other (by decide)).trans (c7 hb'), fun hb' => (eval_other (by decide)).trans (c8 hb'), fun hb' => (eval_other (by decide)).trans (c9 hb'), fun hb' => (eval_other (by decide)).trans (c10 hb'), fun _ => (eval_same (by omega)).trans (rfl), fun hb' => (eval_other (by decide)).trans (c12 hb'), fun hb' => (eval_other (by decide)).trans (c13 hb'), fun hb' => (eval_other (by decide)).trans (c15 hb'), fun hb' => k9_8 hb', fun hb' => k10_9 hb', fun _ => p10, fun hb' => k12_10 hb', fun hb' => k14_13 hb', fun _ => rfl, fun hb' => k15_12 hb', phb_eq rfl (bx1_eq rfl rfl (fun _ => rfl)) hw⟩
 ·obtain ⟨hop, hd, hg, hp⟩ := s12.get ho he
  have p10 := hp 10 (by simp)
  refine wpOp_plain ho hg ?_
  refine op_any (n := .value (.int .i64 0)) (by unfold execOp; simp only [hop]; rw [c10 p10]; rfl) ?_
  rw [Oper.upon_value, hd]
  exact ⟨hF.put (by decide) _, V, A, fun hb' => (eval_other (by decide)).trans (c0 hb'), fun hb' => (eval_other (by decide)).trans (c1 hb'), fun hb' => (eval_other (by decide)).trans (c2 hb'), fun hb' => (eval_other (by decide)).trans (c3 hb'), fun hb' => (eval_other (by decide)).trans (c4 hb'), fun hb' => (eval_other (by decide)).trans (c5 hb'), fun hb' => (eval_other (by decide)).trans (c6 hb'), fun hb' => (eval_other (by decide)).trans (c7 hb'), fun hb' => (eval_other (by decide)).trans (c8 hb'), fun hb' => (eval_other (by decide)).trans (c9 hb'), fun hb' => (eval_other (by decide)).trans (c10 hb'), fun hb' => (eval_other (by decide)).trans (c11 hb'), fun _ => (eval_same (by omega)).trans (rfl), fun hb' => (eval_other (by decide)).trans (c13 hb'), fun hb' => (eval_other (by decide)).trans (c15 hb'), fun hb' => k9_8 hb', fun hb' => k10_9 hb', fun hb' => k11_10 hb', fun _ => p10, fun hb' => k14_13 hb', fun hb' => k14_11 hb', fun _ => rfl, phb_eq rfl (bx1_eq rfl rfl (fun _ => rfl)) hw⟩
 ·obtain ⟨hop, hd, hg, hp⟩ := s13.get ho he
  refine wpOp_plain ho hg ?_
  have n14 : ¬ b 14 = true := fun h => by have := k14_13 h; rw [hb] at this; cases this
  have hbe : bx1 Zw b V A = [] := by unfold bx1; rw [if_neg (by simp [hb])]
  have hbn : bx1 Zw (fun j => if j = 13 then true else b j) V w.heap.size = [(w.heap.size, .cells Zw 54 (0, 0))] := bx1_at (b := fun j => if j = 13 then true else b j) rfl n14
  have hp2 : P0 wC (w.alloc (.cells Zw 54 (0, 0))) (bx1 Zw (fun j => if j = 13 then true else b j) V w.heap.size) := by
   have h := hw0.1.alloc (.cells Zw 54 (0, 0))
   rw [hbe] at h
   rw [hbn]
   exact h
  refine op_alloc (v := .pointer (some ⟨w.heap.size, 0, none⟩)) (w' := w.alloc (.cells Zw 54 (0, 0))) hop (by rw [hZw]; rfl) ?_
  rw [hd]
  exact ⟨hF.put (by decide) _, V, w.heap.size, fun hb' => (eval_other (by decide)).trans (c0 hb'), fun hb' => (eval_other (by decide)).trans (c1 hb'), fun hb' => (eval_other (by decide)).trans (c2 hb'), fun hb' => (eval_other (by decide)).trans (c3 hb'), fun hb' => (eval_other (by decide)).trans (c4 hb'), fun hb' => (eval_other (by decide)).trans (c5 hb'), fun hb' => (eval_other (by decide)).trans (c6 hb'), fun hb' => (eval_other (by decide)).trans (c7 hb'), fun hb' => (eval_other (by decide)).trans (c8 hb'), fun hb' => (eval_other (by decide)).trans (c9 hb'), fun hb' => (eval_other (by decide)).trans (c10 hb'), fun hb' => (eval_other (by decide)).trans (c11 hb'), fun hb' => (eval_other (by decide)).trans (c12 hb'), fun _ => (eval_same (by omega)).trans (rfl), fun hb' => (eval_other (by decide)).trans (c15 hb'), fun hb' => k9_8 hb', fun hb' => k10_9 hb', fun hb' => k11_10 hb', fun hb' => k12_10 hb', fun _ => rfl, fun hb' => k14_11 hb', fun hb' => k15_12 hb', phb_to hw rfl hp2 (fun p hp => by rw [hbn] at hp; rw [List.mem_singleton.1 hp]; exact ⟨_, rfl⟩) (fun j hj => by obtain ⟨cs, t, h, _⟩ := hj; exact Below.heap_alloc _ _ _ (Array.getElem?_eq_some_iff.1 h).1)⟩
 ·obtain ⟨hop, hd, hg, hp⟩ := s14.get ho he
  have p13 := hp 13 (by simp)
  have p11 := hp 11 (by simp)
  refine wpOp_plain ho hg ?_
  have n14 : ¬ b 14 = true := by simp [hb]
  have p10 : b 10 = true := k11_10 p11
  have p9 : b 9 = true := k10_9 p10
  have hh := hw0.1.2 _ (bx1A p13)
  rw [if_neg n14] at hh
  have hV47 : V.size = 47 ∧ V.toList.all (·.oneCell') = true := by
   rw [phb_e1 p9] at hw
   obtain ⟨_, _, LA, lc, rfl, _⟩ := hw
   exact ⟨rfl, rfl⟩
  have hZs : Zw.size = 47 := by rw [hZw]; rfl
  have hrow : (Zw.toList.take 0 ++ V.toList ++ Zw.toList.drop (0 + V.size)).toArray = V := row_same (by rw [hV47.1, hZs])
  have hst := run_storeAt_row (P := Tryz.prog) (ty := 54) (off := 0) (vals := V) hh.1 (by rw [hV47.1]; kernel_rfl) (by rw [hV47.1, hZs]; exact Nat.le_refl 47) hV47.2
  rw [hrow] at hst
  have hnew := setRow_heap w A _ V _ _ hh.1
  have hWr := Wrote.setRow A w V
  have hbn : bx1 Zw (fun j => if j = 14 then true else b j) V A = [(A, .cells V 54 (0, 0))] := bx1_full (b := fun j => if j = 14 then true else b j) p13 rfl
  have hp2 : P0 wC (w.setRow A V) (bx1 Zw (fun j => if j = 14 then true else b j) V A) := by
   rw [hbn]
   exact ⟨hw0.1.1.trans (hWr.below hh.2), fun p hp => by rw [List.mem_singleton.1 hp]; exact ⟨hnew, hh.2⟩⟩
  refine op_store (w' := w.setRow A V) hop (by rw [c13 p13, c11 p11]; exact hst) ?_
  rw [hd]
  exact ⟨hF.put0 _, V, A, fun hb' => c0 hb', fun hb' => c1 hb', fun hb' => c2 hb', fun hb' => c3 hb', fun hb' => c4 hb', fun hb' => c5 hb', fun hb' => c6 hb', fun hb' => c7 hb', fun hb' => c8 hb', fun hb' => c9 hb', fun hb' => c10 hb', fun hb' => c11 hb', fun hb' => c12 hb', fun hb' => c13 hb', fun hb' => c15 hb', fun hb' => k9_8 hb', fun hb' => k10_9 hb', fun hb' => k11_10 hb', fun hb' => k12_10 hb', fun _ => p13, fun _ => p11, fun hb' => k15_12 hb', phb_to hw rfl hp2 (fun p hp => by rw [hbn] at hp; rw [List.mem_singleton.1 hp]; exact ⟨_, rfl⟩) (fun j hj => hWr.other j (wrote_ty hWr hh.1 (by decide) hj))⟩
 ·obtain ⟨hop, hd, hg, hp⟩ := s15.get ho he
  have p12 := hp 12 (by simp)
  refine wpOp_plain ho hg ?_
  refine op_move (.inr hop) ?_
  rw [hd]
  exact ⟨hF.put (by decide) _, V, A, fun hb' => (eval_other (by decide)).trans (c0 hb'), fun hb' => (eval_other (by decide)).trans (c1 hb'), fun hb' => (eval_other (by decide)).trans (c2 hb'), fun hb' => (eval_other (by decide)).trans (c3 hb'), fun hb' => (eval_other (by decide)).trans (c4 hb'), fun hb' => (eval_other (by decide)).trans (c5 hb'), fun hb' => (eval_other (by decide)).trans (c6 hb'), fun hb' => (eval_other (by decide)).trans (c7 hb'), fun hb' => (eval_other (by decide)).trans (c8 hb'), fun hb' => (eval_other (by decide)).trans (c9 hb'), fun hb' => (eval_other (by decide)).trans (c10 hb'), fun hb' => (eval_other (by decide)).trans (c11 hb'), fun hb' => (eval_other (by decide)).trans (c12 hb'), fun hb' => (eval_other (by decide)).trans (c13 hb'), fun _ => (eval_same (by omega)).trans (c12 p12), fun hb' => k9_8 hb', fun hb' => k10_9 hb', fun hb' => k11_10 hb', fun hb' => k12_10 hb', fun hb' => k14_13 hb', fun hb' => k14_11 hb', fun _ => p12, phb_eq rfl (bx1_eq rfl rfl (fun _ => rfl)) hw⟩
end Go.Proofs.YtiajboiobjfcoaaGreatDoor
