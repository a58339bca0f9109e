/-
  What is proved here: what the law's region 23 does, IN, whatever the order of its operations.
  Conditions: what the calls in it return.
-/
import Derived.Test.YtiajboiobjfcoaaGreatDoorOR14
namespace Go.Proofs.YtiajboiobjfcoaaGreatDoor
open Go.Proofs Go.RowKit
def bxsN (Zr Zq : Array Value) (b : Nat → Bool) (Vr Vq : Array Value) (A B : Nat) : List (Nat × Obj) :=
 (if b 15 = true then [(A, .cells (if b 17 = true then Vr else Zr) 60 (0, 0))] else []) ++ (if b 16 = true then [(B, .cells (if b 18 = true then Vq else Zq) 30 (0, 0))] else [])
theorem bxAN {Zr Zq : Array Value} {b : Nat → Bool} {Vr Vq : Array Value} {A B : Nat} (h : b 15 = true) : (A, Obj.cells (if b 17 = true then Vr else Zr) 60 (0, 0)) ∈ bxsN Zr Zq b Vr Vq A B := by
 unfold bxsN; rw [if_pos h]; simp
theorem bxBN {Zr Zq : Array Value} {b : Nat → Bool} {Vr Vq : Array Value} {A B : Nat} (h : b 16 = true) : (B, Obj.cells (if b 18 = true then Vq else Zq) 30 (0, 0)) ∈ bxsN Zr Zq b Vr Vq A B := by
 unfold bxsN; rw [if_pos h]; simp
theorem bx_casesN {Zr Zq : Array Value} {b : Nat → Bool} {Vr Vq : Array Value} {A B : Nat} {p : Nat × Obj} (h : p ∈ bxsN Zr Zq b Vr Vq A B) : (b 15 = true ∧ p = (A, Obj.cells (if b 17 = true then Vr else Zr) 60 (0, 0))) ∨ (b 16 = true ∧ p = (B, Obj.cells (if b 18 = true then Vq else Zq) 30 (0, 0))) := by
 unfold bxsN at h
 rcases List.mem_append.1 h with h | h
 ·split at h
  ·exact .inl ⟨by assumption, List.mem_singleton.1 h⟩
  ·exact nomatch h
 ·split at h
  ·exact .inr ⟨by assumption, List.mem_singleton.1 h⟩
  ·exact nomatch h
theorem bx_eqN {Zr Zq : Array Value} {b b' : Nat → Bool} {Vr Vq Vr' Vq' : Array Value} {A B : Nat} (h13 : b' 15 = b 15) (h14 : b' 16 = b 16) (h15 : b' 17 = b 17) (h16 : b' 18 = b 18) (hr : b 17 = true → Vr' = Vr) (hq : b 18 = true → Vq' = Vq) : bxsN Zr Zq b' Vr' Vq' A B = bxsN Zr Zq b Vr Vq A B := by
 unfold bxsN
 rw [h13, h14, h15, h16]
 by_cases h6 : b 17 = true
 ·rw [hr h6]
  by_cases h7 : b 18 = true
  ·rw [hq h7]
  ·rw [if_neg h7, if_neg h7]
 ·rw [if_neg h6, if_neg h6]
  by_cases h7 : b 18 = true
  ·rw [hq h7]
  ·rw [if_neg h7, if_neg h7]
section
variable (wC : World) (S0 : Nat → Prop) (R1 : Array Value → World → List (Nat × Obj) → Prop) (R2 : Array Value → Array Value → World → List (Nat × Obj) → Prop)
def PhsN (b : Nat → Bool) (V Vr Vq : Array Value) (w : World) (bs : List (Nat × Obj)) : Prop :=
 if b 11 = true then R2 Vr Vq w bs else if b 10 = true then R1 V w bs else P0 wC w bs
theorem phs_e0N {b : Nat → Bool} {V Vr Vq : Array Value} {w : World} {bs : List (Nat × Obj)} (h9 : ¬ b 11 = true) (h8 : ¬ b 10 = true) : PhsN wC R1 R2 b V Vr Vq w bs = P0 wC w bs := by unfold PhsN; rw [if_neg h9, if_neg h8]
theorem phs_e1N {b : Nat → Bool} {V Vr Vq : Array Value} {w : World} {bs : List (Nat × Obj)} (h9 : ¬ b 11 = true) (h8 : b 10 = true) : PhsN wC R1 R2 b V Vr Vq w bs = R1 V w bs := by unfold PhsN; rw [if_neg h9, if_pos h8]
theorem phs_e2N {b : Nat → Bool} {V Vr Vq : Array Value} {w : World} {bs : List (Nat × Obj)} (h9 : b 11 = true) : PhsN wC R1 R2 b V Vr Vq w bs = R2 Vr Vq w bs := by unfold PhsN; rw [if_pos h9]
theorem phs_goodN (h1 : ∀ V, Good wC S0 (R1 V)) (h2 : ∀ Vr Vq, Good wC S0 (R2 Vr Vq)) (b : Nat → Bool) (V Vr Vq : Array Value) : Good wC S0 (PhsN wC R1 R2 b V Vr Vq) := by
 unfold PhsN
 split
 ·exact h2 Vr Vq
 ·split
  ·exact h1 V
  ·exact Good.p0 wC S0
theorem phs_eqN {b b' : Nat → Bool} {V Vr Vq : Array Value} {w : World} {bs bs' : List (Nat × Obj)} (h9 : b' 11 = b 11) (h8 : b' 10 = b 10) (hb : bs' = bs) (h : PhsN wC R1 R2 b V Vr Vq w bs) : PhsN wC R1 R2 b' V Vr Vq w bs' := by
 unfold PhsN at h ⊢
 rw [h9, h8, hb]
 exact h
def I23 (a0 : Act) (G L X : Nat) (V0 xS Zr Zq : Array Value) (ix st : Int) (sA : Option Addr) (sn sc : Nat) (b : Nat → Bool) (a : Act) (w : World) : Prop :=
 Fr [117, 118, 119, 120, 121, 122, 123, 124, 125, 126, 127, 128, 116, 129, 130, 15, 16] a0 a ∧ ∃ (V Vr Vq : Array Value) (A B : Nat), (b 0 = true → a.eval (.tmp 117) = .agg V0) ∧
  (b 1 = true → a.eval (.tmp 118) = .pointer (some ⟨G, 0, none⟩)) ∧
  (b 2 = true → a.eval (.tmp 119) = .iface 32 (.pointer (some ⟨G, 0, none⟩))) ∧
  (b 3 = true → a.eval (.tmp 120) = .pointer (some ⟨L, 0, none⟩)) ∧
  (b 4 = true → a.eval (.tmp 121) = .iface 35 (.pointer (some ⟨L, 0, none⟩))) ∧
  (b 5 = true → a.eval (.tmp 122) = .pointer (some ⟨X, 2, none⟩)) ∧
  (b 6 = true → a.eval (.tmp 123) = .slice sA sn sc) ∧
  (b 7 = true → a.eval (.tmp 124) = .agg xS) ∧
  (b 8 = true → a.eval (.tmp 125) = .int .i64 ix) ∧
  (b 9 = true → a.eval (.tmp 126) = .int .i64 st) ∧
  (b 10 = true → a.eval (.tmp 127) = .agg V) ∧
  (b 11 = true → a.eval (.tmp 128) = .tuple #[.agg Vr, .agg Vq]) ∧
  (b 12 = true → a.eval (.tmp 116) = .tuple #[.agg Vr, .agg Vq]) ∧
  (b 13 = true → a.eval (.tmp 129) = .agg Vr) ∧
  (b 14 = true → a.eval (.tmp 130) = .agg Vq) ∧
  (b 15 = true → a.eval (.tmp 15) = .pointer (some ⟨A, 0, none⟩)) ∧
  (b 16 = true → a.eval (.tmp 16) = .pointer (some ⟨B, 0, none⟩)) ∧
  (b 10 = true → b 9 = true) ∧ (b 11 = true → b 10 = true) ∧ (b 12 = true → b 11 = true) ∧ (b 13 = true → b 12 = true) ∧ (b 14 = true → b 12 = true) ∧ (b 17 = true → b 15 = true) ∧ (b 17 = true → b 13 = true) ∧ (b 18 = true → b 16 = true) ∧ (b 18 = true → b 14 = true) ∧ (b 15 = true → b 16 = true → A ≠ B) ∧ PhsN wC R1 R2 b V Vr Vq w (bxsN Zr Zq b Vr Vq A B)
end
section
variable {P : Program} {o : Oper} {a : Act} {w : World} {K : Act → World → Prop} {Q : Exit → Act → World → Prop}
theorem op_fieldN {s : TypeId} {x : Operand} {f : Nat} {v : Value} (ho : o.op = .fieldAddr s x f) (hv : (Instr.fieldAt s (a.eval x) f).run P w = .ok v w) (h : K (a.put o.dst v) w) : o.wp P a w K Q := by
 unfold Oper.wp execOp
 simp only [ho, Sem.run_bind, hv, Result.andThen_ok, Sem.run_pure, Oper.upon_value]
 exact h
theorem op_buildN {t : TypeId} {parts : Array (Nat × Operand)} {v : Value} (ho : o.op = .build t parts) (hv : (Instr.build t (parts.map fun (i, x) => (i, a.eval x))).run P w = .ok v w) (h : K (a.put o.dst v) w) : o.wp P a w K Q := by
 unfold Oper.wp execOp
 simp only [ho, Sem.run_bind, hv, Result.andThen_ok, Sem.run_pure, Oper.upon_value]
 exact h
end
set_option maxHeartbeats 4000000 in
set_option maxRecDepth 1000000 in
theorem r23 {ops : Array Oper} {Q : Exit → Act → World → Prop} {id : Nat} {a0 : Act} {wC : World} {S0 : Nat → Prop} {R1 : Array Value → World → List (Nat × Obj) → Prop} {R2 : Array Value → Array Value → World → List (Nat × Obj) → Prop} {G L X bW : Nat} {V0 xC xS Zr Zq : Array Value} {ix st : Int} {sA : Option Addr} {sn sc : Nat}
  (hback : edgesBack ops = true) (hn : ops.size = 19)
  (s0 : Sp ops 0 (.load 54 (.tmp 13)) (some 117) [])
  (s1 : Sp ops 1 (.move (.tmp 3)) (some 118) [])
  (s2 : Sp ops 2 (.makeInterface 32 (.tmp 118)) (some 119) [1])
  (s3 : Sp ops 3 (.move (.tmp 8)) (some 120) [])
  (s4 : Sp ops 4 (.makeInterface 35 (.tmp 120)) (some 121) [3])
  (s5 : Sp ops 5 (.fieldAddr 69 (.tmp 1) 2) (some 122) [])
  (s6 : Sp ops 6 (.load 23 (.tmp 122)) (some 123) [5])
  (s7 : Sp ops 7 (.build 25 #[(1, .tmp 123)]) (some 124) [6])
  (s8 : Sp ops 8 (.move (.tmp 11)) (some 125) [])
  (s9 : Sp ops 9 (.call { callee := .value (.func 13), args := #[.tmp 124, .tmp 125], argTypes := #[25, 3] }) (some 126) [7, 8])
  (s10 : Sp ops 10 (.call { callee := .value (.func 12), args := #[.tmp 117, .tmp 119, .tmp 121, .tmp 126], argTypes := #[54, 102, 104, 3] }) (some 127) [0, 2, 4, 9])
  (s11 : Sp ops 11 (.call { callee := .value (.func 11), args := #[.tmp 127], argTypes := #[54] }) (some 128) [10])
  (s12 : Sp ops 12 (.move (.tmp 128)) (some 116) [11])
  (s13 : Sp ops 13 (.extract (.tmp 116) 0) (some 129) [12])
  (s14 : Sp ops 14 (.extract (.tmp 116) 1) (some 130) [12])
  (s15 : Sp ops 15 (.alloc 60) (some 15) [])
  (s16 : Sp ops 16 (.alloc 30) (some 16) [])
  (s17 : Sp ops 17 (.store 60 (.tmp 15) (.tmp 129)) (none) [15, 13])
  (s18 : Sp ops 18 (.store 30 (.tmp 16) (.tmp 130)) (none) [16, 14])
  (hsz0 : a0.tmps.size = 242) (e1 : a0.eval (.tmp 1) = .pointer (some ⟨X, 0, none⟩)) (e4 : a0.eval (.tmp 3) = .pointer (some ⟨G, 0, none⟩)) (e5 : a0.eval (.tmp 8) = .pointer (some ⟨L, 0, none⟩)) (e7 : a0.eval (.tmp 11) = .int .i64 ix) (e8 : a0.eval (.tmp 13) = .pointer (some ⟨bW, 0, none⟩))
  (hW : wC.heap[bW]? = some (.cells V0 54 (0, 0))) (hWS : ¬ S0 bW) (hV47 : V0.size = 47) (hX : wC.heap[X]? = some (.cells xC 69 (0, 0))) (hXS : ¬ S0 X) (hx2 : xC[2]? = some (.slice sA sn sc)) (hxS : xS = #[.slice none 0 0, .slice sA sn sc, .slice none 0 0, .slice none 0 0, .bool false, .bool false])
  (hZr : Zr = #[.int .i64 0, .slice none 0 0, .int .i64 0, .slice none 0 0]) (hZq : Zq = #[.int .u8 0, .int .u8 0, .bool false, .int .u8 0, .int .i64 0, .int .i64 0, .int .u8 0, .int .u8 0, .int .u8 0, .bool false, .bool false])
  (h1 : ∀ V, Good wC S0 (R1 V)) (h2 : ∀ Vr Vq, Good wC S0 (R2 Vr Vq))
  (hsz2 : ∀ {Vr Vq w bs}, R2 Vr Vq w bs → Vr.size = 4 ∧ Vq.size = 11 ∧ Vr.toList.all (·.oneCell') = true ∧ Vq.toList.all (·.oneCell') = true)
  (hwr : ∀ {Vr Vq w w' bs bs' bxX} o, R2 Vr Vq w bs → (bxX, o) ∈ bs → Wrote bxX w w' → Has wC w' bs' → (∀ p ∈ bs', p.1 = bxX ∨ p ∈ bs) → R2 Vr Vq w' bs')
  (hsteps : ∀ w : World, Below wC.heap.size wC w → Calls Tryz.prog 13 #[.agg xS, .int .i64 ix] w fun e w' => e = .returned (.int .i64 st) ∧ Below w.heap.size w w')
  (hrun : ∀ (w : World) bs, P0 wC w bs → Calls Tryz.prog 12 #[.agg V0, .iface 32 (.pointer (some ⟨G, 0, none⟩)), .iface 35 (.pointer (some ⟨L, 0, none⟩)), .int .i64 st] w fun e w' => ∃ V, e = .returned (.agg V) ∧ R1 V w' bs)
  (hstop : ∀ (w : World) V bs, R1 V w bs → Calls Tryz.prog 11 #[.agg V] w fun e w' => ∃ Vr Vq, e = .returned (.tuple #[.agg Vr, .agg Vq]) ∧ R2 Vr Vq w' bs)
  (hQ : ∀ (a : Act) (w : World) (Vr Vq : Array Value) (A B : Nat), Fr [117, 118, 119, 120, 121, 122, 123, 124, 125, 126, 127, 128, 116, 129, 130, 15, 16] a0 a → a.eval (.tmp 15) = .pointer (some ⟨A, 0, none⟩) → a.eval (.tmp 16) = .pointer (some ⟨B, 0, none⟩) → R2 Vr Vq w [(A, .cells Vr 60 (0, 0)), (B, .cells Vq 30 (0, 0))] → A ≠ B → Q .normal a w) :
  (Code.region id ops true).wp Tryz.prog Q a0 wC := by
 have hfa : ∀ w : World, (Instr.fieldAt 69 (Value.pointer (some ⟨X, 0, none⟩)) 2).run Tryz.prog w = .ok (.pointer (some ⟨X, 2, none⟩)) w := by
  intro w
  simp [go_sem]
 have hld : ∀ w : World, w.heap[X]? = some (.cells xC 69 (0, 0)) → (Instr.loadAt 23 (Value.pointer (some ⟨X, 2, none⟩))).run Tryz.prog w = .ok (.slice sA sn sc) w := by
  intro w hb
  have h := (cell_of hb 2).trans hx2
  simp [go_sem, h]
 have hbd : ∀ w : World, (Instr.build 25 #[(1, .slice sA sn sc)]).run Tryz.prog w = .ok (.agg xS) w := by
  intro w
  rw [hxS]
  exact run_build w _ _ _ rfl
 refine region_inv (by kernel_rfl) hback (I23 wC R1 R2 a0 G L X V0 xS Zr Zq ix st sA sn sc) ?_ ?_ ?_
 ·refine ⟨Fr.refl _ _, #[], #[], #[], 0, 0, (fun h => nomatch h), (fun h => nomatch h), (fun h => nomatch h), (fun h => nomatch h), (fun h => nomatch h), (fun h => nomatch h), (fun h => nomatch h), (fun h => nomatch h), (fun h => nomatch h), (fun h => nomatch h), (fun h => nomatch h), (fun h => nomatch h), (fun h => nomatch h), (fun h => nomatch h), (fun h => nomatch h), (fun h => nomatch h), (fun h => nomatch h), (fun h => nomatch h), (fun h => nomatch h), (fun h => nomatch h), (fun h => nomatch h), (fun h => nomatch h), (fun h => nomatch h), (fun h => nomatch h), (fun h => nomatch h), (fun h => nomatch h), (fun h => nomatch h), ?_⟩
  exact ⟨(Below.refl _ _).drew, fun p hp => nomatch hp⟩
 rotate_left
 ·rintro b a w hall ⟨hF, V, Vr, Vq, A, B, c0, c1, c2, c3, c4, c5, c6, c7, c8, c9, c10, c11, c12, c13, c14, c15, c16, k10_9, k11_10, k12_11, k13_12, k14_12, k17_15, k17_13, k18_16, k18_14, hAB, hw⟩
  rw [hn] at hall
  refine hQ a w Vr Vq A B hF (c15 (hall 15 (by decide))) (c16 (hall 16 (by decide))) ?_ (hAB (hall 15 (by decide)) (hall 16 (by decide)))
  unfold PhsN bxsN at hw
  rw [hall 11 (by decide), hall 15 (by decide), hall 16 (by decide), hall 17 (by decide), hall 18 (by decide)] at hw
  exact hw
 rintro b a w i o ho hb he ⟨hF, V, Vr, Vq, A, B, c0, c1, c2, c3, c4, c5, c6, c7, c8, c9, c10, c11, c12, c13, c14, c15, c16, k10_9, k11_10, k12_11, k13_12, k14_12, k17_15, k17_13, k18_16, k18_14, hAB, hw⟩
 have hi : i < 19 := by rw [← hn]; exact (Array.getElem?_eq_some_iff.1 ho).1
 have hsz : a.tmps.size = 242 := hF.size.trans hsz0
 have hg0 := phs_goodN wC S0 R1 R2 h1 h2 b V Vr Vq
 obtain rfl | rfl | rfl | rfl | rfl | rfl | rfl | rfl | rfl | rfl | rfl | rfl | rfl | rfl | rfl | rfl | rfl | rfl | rfl : i = 0 ∨ i = 1 ∨ i = 2 ∨ i = 3 ∨ i = 4 ∨ i = 5 ∨ i = 6 ∨ i = 7 ∨ i = 8 ∨ i = 9 ∨ i = 10 ∨ i = 11 ∨ i = 12 ∨ i = 13 ∨ i = 14 ∨ i = 15 ∨ i = 16 ∨ i = 17 ∨ i = 18 := by omega
 ·obtain ⟨hop, hd, hg, hp⟩ := s0.get ho he
  refine wpOp_plain ho hg ?_
  refine op_load hop (by rw [hF.eval (by decide), e8]; exact run_loadAt_row ((hg0.kp hw _ (Array.getElem?_eq_some_iff.1 hW).1 hWS).trans hW) Tryz.underlying54 rfl (by rw [hV47]; kernel_rfl)) ?_
  rw [hd]
  exact ⟨hF.put (by decide) _, V, Vr, Vq, A, B, fun _ => (eval_same (by omega)).trans (rfl), fun hb' => (eval_other (by decide)).trans (c1 hb'), fun hb' => (eval_other (by decide)).trans (c2 hb'), fun hb' => (eval_other (by decide)).trans (c3 hb'), fun hb' => (eval_other (by decide)).trans (c4 hb'), fun hb' => (eval_other (by decide)).trans (c5 hb'), fun hb' => (eval_other (by decide)).trans (c6 hb'), fun hb' => (eval_other (by decide)).trans (c7 hb'), fun hb' => (eval_other (by decide)).trans (c8 hb'), fun hb' => (eval_other (by decide)).trans (c9 hb'), fun hb' => (eval_other (by decide)).trans (c10 hb'), fun hb' => (eval_other (by decide)).trans (c11 hb'), fun hb' => (eval_other (by decide)).trans (c12 hb'), fun hb' => (eval_other (by decide)).trans (c13 hb'), fun hb' => (eval_other (by decide)).trans (c14 hb'), fun hb' => (eval_other (by decide)).trans (c15 hb'), fun hb' => (eval_other (by decide)).trans (c16 hb'), fun hb' => k10_9 hb', fun hb' => k11_10 hb', fun hb' => k12_11 hb', fun hb' => k13_12 hb', fun hb' => k14_12 hb', fun hb' => k17_15 hb', fun hb' => k17_13 hb', fun hb' => k18_16 hb', fun hb' => k18_14 hb', hAB, phs_eqN _ _ _ rfl rfl (bx_eqN rfl rfl rfl rfl (fun _ => rfl) (fun _ => rfl)) hw⟩
 ·obtain ⟨hop, hd, hg, hp⟩ := s1.get ho he
  refine wpOp_plain ho hg ?_
  refine op_move (.inl hop) ?_
  rw [hd]
  exact ⟨hF.put (by decide) _, V, Vr, Vq, A, B, fun hb' => (eval_other (by decide)).trans (c0 hb'), fun _ => (eval_same (by omega)).trans ((hF.eval (by decide)).trans e4), fun hb' => (eval_other (by decide)).trans (c2 hb'), fun hb' => (eval_other (by decide)).trans (c3 hb'), fun hb' => (eval_other (by decide)).trans (c4 hb'), fun hb' => (eval_other (by decide)).trans (c5 hb'), fun hb' => (eval_other (by decide)).trans (c6 hb'), fun hb' => (eval_other (by decide)).trans (c7 hb'), fun hb' => (eval_other (by decide)).trans (c8 hb'), fun hb' => (eval_other (by decide)).trans (c9 hb'), fun hb' => (eval_other (by decide)).trans (c10 hb'), fun hb' => (eval_other (by decide)).trans (c11 hb'), fun hb' => (eval_other (by decide)).trans (c12 hb'), fun hb' => (eval_other (by decide)).trans (c13 hb'), fun hb' => (eval_other (by decide)).trans (c14 hb'), fun hb' => (eval_other (by decide)).trans (c15 hb'), fun hb' => (eval_other (by decide)).trans (c16 hb'), fun hb' => k10_9 hb', fun hb' => k11_10 hb', fun hb' => k12_11 hb', fun hb' => k13_12 hb', fun hb' => k14_12 hb', fun hb' => k17_15 hb', fun hb' => k17_13 hb', fun hb' => k18_16 hb', fun hb' => k18_14 hb', hAB, phs_eqN _ _ _ rfl rfl (bx_eqN rfl rfl rfl rfl (fun _ => rfl) (fun _ => rfl)) hw⟩
 ·obtain ⟨hop, hd, hg, hp⟩ := s2.get ho he
  have p1 := hp 1 (by simp)
  refine wpOp_plain ho hg ?_
  refine op_iface hop (by rw [c1 p1]; rfl) ?_
  rw [hd]
  exact ⟨hF.put (by decide) _, V, Vr, Vq, A, B, fun hb' => (eval_other (by decide)).trans (c0 hb'), fun hb' => (eval_other (by decide)).trans (c1 hb'), fun _ => (eval_same (by omega)).trans (rfl), fun hb' => (eval_other (by decide)).trans (c3 hb'), fun hb' => (eval_other (by decide)).trans (c4 hb'), fun hb' => (eval_other (by decide)).trans (c5 hb'), fun hb' => (eval_other (by decide)).trans (c6 hb'), fun hb' => (eval_other (by decide)).trans (c7 hb'), fun hb' => (eval_other (by decide)).trans (c8 hb'), fun hb' => (eval_other (by decide)).trans (c9 hb'), fun hb' => (eval_other (by decide)).trans (c10 hb'), fun hb' => (eval_other (by decide)).trans (c11 hb'), fun hb' => (eval_other (by decide)).trans (c12 hb'), fun hb' => (eval_other (by decide)).trans (c13 hb'), fun hb' => (eval_other (by decide)).trans (c14 hb'), fun hb' => (eval_other (by decide)).trans (c15 hb'), fun hb' => (eval_other (by decide)).trans (c16 hb'), fun hb' => k10_9 hb', fun hb' => k11_10 hb', fun hb' => k12_11 hb', fun hb' => k13_12 hb', fun hb' => k14_12 hb', fun hb' => k17_15 hb', fun hb' => k17_13 hb', fun hb' => k18_16 hb', fun hb' => k18_14 hb', hAB, phs_eqN _ _ _ rfl rfl (bx_eqN rfl rfl rfl rfl (fun _ => rfl) (fun _ => rfl)) hw⟩
 ·obtain ⟨hop, hd, hg, hp⟩ := s3.get ho he
  refine wpOp_plain ho hg ?_
  refine op_move (.inl hop) ?_
  rw [hd]
  exact ⟨hF.put (by decide) _, V, Vr, Vq, A, B, fun hb' => (eval_other (by decide)).trans (c0 hb'), fun hb' => (eval_other (by decide)).trans (c1 hb'), fun hb' => (eval_other (by decide)).trans (c2 hb'), fun _ => (eval_same (by omega)).trans ((hF.eval (by decide)).trans e5), fun hb' => (eval_other (by decide)).trans (c4 hb'), fun hb' => (eval_other (by decide)).trans (c5 hb'), fun hb' => (eval_other (by decide)).trans (c6 hb'), fun hb' => (eval_other (by decide)).trans (c7 hb'), fun hb' => (eval_other (by decide)).trans (c8 hb'), fun hb' => (eval_other (by decide)).trans (c9 hb'), fun hb' => (eval_other (by decide)).trans (c10 hb'), fun hb' => (eval_other (by decide)).trans (c11 hb'), fun hb' => (eval_other (by decide)).trans (c12 hb'), fun hb' => (eval_other (by decide)).trans (c13 hb'), fun hb' => (eval_other (by decide)).trans (c14 hb'), fun hb' => (eval_other (by decide)).trans (c15 hb'), fun hb' => (eval_other (by decide)).trans (c16 hb'), fun hb' => k10_9 hb', fun hb' => k11_10 hb', fun hb' => k12_11 hb', fun hb' => k13_12 hb', fun hb' => k14_12 hb', fun hb' => k17_15 hb', fun hb' => k17_13 hb', fun hb' => k18_16 hb', fun hb' => k18_14 hb', hAB, phs_eqN _ _ _ rfl rfl (bx_eqN rfl rfl rfl rfl (fun _ => rfl) (fun _ => rfl)) hw⟩
 ·obtain ⟨hop, hd, hg, hp⟩ := s4.get ho he
  have p3 := hp 3 (by simp)
  refine wpOp_plain ho hg ?_
  refine op_iface hop (by rw [c3 p3]; rfl) ?_
  rw [hd]
  exact ⟨hF.put (by decide) _, V, Vr, Vq, A, B, fun hb' => (eval_other (by decide)).trans (c0 hb'), fun hb' => (eval_other (by decide)).trans (c1 hb'), fun hb' => (eval_other (by decide)).trans (c2 hb'), fun hb' => (eval_other (by decide)).trans (c3 hb'), fun _ => (eval_same (by omega)).trans (rfl), fun hb' => (eval_other (by decide)).trans (c5 hb'), fun hb' => (eval_other (by decide)).trans (c6 hb'), fun hb' => (eval_other (by decide)).trans (c7 hb'), fun hb' => (eval_other (by decide)).trans (c8 hb'), fun hb' => (eval_other (by decide)).trans (c9 hb'), fun hb' => (eval_other (by decide)).trans (c10 hb'), fun hb' => (eval_other (by decide)).trans (c11 hb'), fun hb' => (eval_other (by decide)).trans (c12 hb'), fun hb' => (eval_other (by decide)).trans (c13 hb'), fun hb' => (eval_other (by decide)).trans (c14 hb'), fun hb' => (eval_other (by decide)).trans (c15 hb'), fun hb' => (eval_other (by decide)).trans (c16 hb'), fun hb' => k10_9 hb', fun hb' => k11_10 hb', fun hb' => k12_11 hb', fun hb' => k13_12 hb', fun hb' => k14_12 hb', fun hb' => k17_15 hb', fun hb' => k17_13 hb', fun hb' => k18_16 hb', fun hb' => k18_14 hb', hAB, phs_eqN _ _ _ rfl rfl (bx_eqN rfl rfl rfl rfl (fun _ => rfl) (fun _ => rfl)) hw⟩
 ·obtain ⟨hop, hd, hg, hp⟩ := s5.get ho he
  refine wpOp_plain ho hg ?_
  refine op_fieldN hop (by rw [hF.eval (by decide), e1]; exact hfa w) ?_
  rw [hd]
  exact ⟨hF.put (by decide) _, V, Vr, Vq, A, B, fun hb' => (eval_other (by decide)).trans (c0 hb'), fun hb' => (eval_other (by decide)).trans (c1 hb'), fun hb' => (eval_other (by decide)).trans (c2 hb'), fun hb' => (eval_other (by decide)).trans (c3 hb'), fun hb' => (eval_other (by decide)).trans (c4 hb'), fun _ => (eval_same (by omega)).trans (rfl), fun hb' => (eval_other (by decide)).trans (c6 hb'), fun hb' => (eval_other (by decide)).trans (c7 hb'), fun hb' => (eval_other (by decide)).trans (c8 hb'), fun hb' => (eval_other (by decide)).trans (c9 hb'), fun hb' => (eval_other (by decide)).trans (c10 hb'), fun hb' => (eval_other (by decide)).trans (c11 hb'), fun hb' => (eval_other (by decide)).trans (c12 hb'), fun hb' => (eval_other (by decide)).trans (c13 hb'), fun hb' => (eval_other (by decide)).trans (c14 hb'), fun hb' => (eval_other (by decide)).trans (c15 hb'), fun hb' => (eval_other (by decide)).trans (c16 hb'), fun hb' => k10_9 hb', fun hb' => k11_10 hb', fun hb' => k12_11 hb', fun hb' => k13_12 hb', fun hb' => k14_12 hb', fun hb' => k17_15 hb', fun hb' => k17_13 hb', fun hb' => k18_16 hb', fun hb' => k18_14 hb', hAB, phs_eqN _ _ _ rfl rfl (bx_eqN rfl rfl rfl rfl (fun _ => rfl) (fun _ => rfl)) hw⟩
 ·obtain ⟨hop, hd, hg, hp⟩ := s6.get ho he
  have p5 := hp 5 (by simp)
  refine wpOp_plain ho hg ?_
  refine op_load hop (by rw [c5 p5]; exact hld w ((hg0.kp hw _ (Array.getElem?_eq_some_iff.1 hX).1 hXS).trans hX)) ?_
  rw [hd]
  exact ⟨hF.put (by decide) _, V, Vr, Vq, A, B, fun hb' => (eval_other (by decide)).trans (c0 hb'), fun hb' => (eval_other (by decide)).trans (c1 hb'), fun hb' => (eval_other (by decide)).trans (c2 hb'), fun hb' => (eval_other (by decide)).trans (c3 hb'), fun hb' => (eval_other (by decide)).trans (c4 hb'), fun hb' => (eval_other (by decide)).trans (c5 hb'), fun _ => (eval_same (by omega)).trans (rfl), fun hb' => (eval_other (by decide)).trans (c7 hb'), fun hb' => (eval_other (by decide)).trans (c8 hb'), fun hb' => (eval_other (by decide)).trans (c9 hb'), fun hb' => (eval_other (by decide)).trans (c10 hb'), fun hb' => (eval_other (by decide)).trans (c11 hb'), fun hb' => (eval_other (by decide)).trans (c12 hb'), fun hb' => (eval_other (by decide)).trans (c13 hb'), fun hb' => (eval_other (by decide)).trans (c14 hb'), fun hb' => (eval_other (by decide)).trans (c15 hb'), fun hb' => (eval_other (by decide)).trans (c16 hb'), fun hb' => k10_9 hb', fun hb' => k11_10 hb', fun hb' => k12_11 hb', fun hb' => k13_12 hb', fun hb' => k14_12 hb', fun hb' => k17_15 hb', fun hb' => k17_13 hb', fun hb' => k18_16 hb', fun hb' => k18_14 hb', hAB, phs_eqN _ _ _ rfl rfl (bx_eqN rfl rfl rfl rfl (fun _ => rfl) (fun _ => rfl)) hw⟩
 ·obtain ⟨hop, hd, hg, hp⟩ := s7.get ho he
  have p6 := hp 6 (by simp)
  refine wpOp_plain ho hg ?_
  refine op_buildN hop (by rw [show (#[(1, Operand.tmp 123)] : Array (Nat × Operand)).map (fun (i, x) => (i, a.eval x)) = #[(1, a.eval (.tmp 123))] from by simp, c6 p6]; exact hbd w) ?_
  rw [hd]
  exact ⟨hF.put (by decide) _, V, Vr, Vq, A, B, fun hb' => (eval_other (by decide)).trans (c0 hb'), fun hb' => (eval_other (by decide)).trans (c1 hb'), fun hb' => (eval_other (by decide)).trans (c2 hb'), fun hb' => (eval_other (by decide)).trans (c3 hb'), fun hb' => (eval_other (by decide)).trans (c4 hb'), fun hb' => (eval_other (by decide)).trans (c5 hb'), fun hb' => (eval_other (by decide)).trans (c6 hb'), fun _ => (eval_same (by omega)).trans (rfl), fun hb' => (eval_other (by decide)).trans (c8 hb'), fun hb' => (eval_other (by decide)).trans (c9 hb'), fun hb' => (eval_other (by decide)).trans (c10 hb'), fun hb' => (eval_other (by decide)).trans (c11 hb'), fun hb' => (eval_other (by decide)).trans (c12 hb'), fun hb' => (eval_other (by decide)).trans (c13 hb'), fun hb' => (eval_other (by decide)).trans (c14 hb'), fun hb' => (eval_other (by decide)).trans (c15 hb'), fun hb' => (eval_other (by decide)).trans (c16 hb'), fun hb' => k10_9 hb', fun hb' => k11_10 hb', fun hb' => k12_11 hb', fun hb' => k13_12 hb', fun hb' => k14_12 hb', fun hb' => k17_15 hb', fun hb' => k17_13 hb', fun hb' => k18_16 hb', fun hb' => k18_14 hb', hAB, phs_eqN _ _ _ rfl rfl (bx_eqN rfl rfl rfl rfl (fun _ => rfl) (fun _ => rfl)) hw⟩
 ·obtain ⟨hop, hd, hg, hp⟩ := s8.get ho he
  refine wpOp_plain ho hg ?_
  refine op_move (.inl hop) ?_
  rw [hd]
  exact ⟨hF.put (by decide) _, V, Vr, Vq, A, B, fun hb' => (eval_other (by decide)).trans (c0 hb'), fun hb' => (eval_other (by decide)).trans (c1 hb'), fun hb' => (eval_other (by decide)).trans (c2 hb'), fun hb' => (eval_other (by decide)).trans (c3 hb'), fun hb' => (eval_other (by decide)).trans (c4 hb'), fun hb' => (eval_other (by decide)).trans (c5 hb'), fun hb' => (eval_other (by decide)).trans (c6 hb'), fun hb' => (eval_other (by decide)).trans (c7 hb'), fun _ => (eval_same (by omega)).trans ((hF.eval (by decide)).trans e7), fun hb' => (eval_other (by decide)).trans (c9 hb'), fun hb' => (eval_other (by decide)).trans (c10 hb'), fun hb' => (eval_other (by decide)).trans (c11 hb'), fun hb' => (eval_other (by decide)).trans (c12 hb'), fun hb' => (eval_other (by decide)).trans (c13 hb'), fun hb' => (eval_other (by decide)).trans (c14 hb'), fun hb' => (eval_other (by decide)).trans (c15 hb'), fun hb' => (eval_other (by decide)).trans (c16 hb'), fun hb' => k10_9 hb', fun hb' => k11_10 hb', fun hb' => k12_11 hb', fun hb' => k13_12 hb', fun hb' => k14_12 hb', fun hb' => k17_15 hb', fun hb' => k17_13 hb', fun hb' => k18_16 hb', fun hb' => k18_14 hb', hAB, phs_eqN _ _ _ rfl rfl (bx_eqN rfl rfl rfl rfl (fun _ => rfl) (fun _ => rfl)) hw⟩
 ·obtain ⟨hop, hd, hg, hp⟩ := s9.get ho he
  have p7 := hp 7 (by simp)
  have p8 := hp 8 (by simp)
  refine wpOp_plain ho hg ?_
  have n10 : ¬ b 10 = true := fun h => by have := k10_9 h; rw [hb] at this; cases this
  have n11 : ¬ b 11 = true := fun h => n10 (k11_10 h)
  unfold PhsN at hw
  rw [if_neg n11, if_neg n10] at hw
  refine op_any (n := .enter 13 #[.agg xS, .int .i64 ix]) (w' := w) (by rw [show execOp a.eval o = callFunc 13 (#[] ++ (#[.tmp 124, .tmp 125] : Array Operand).map a.eval ++ #[]) from by unfold execOp; rw [hop]; rfl, Go.Sy.run_callFunc (Go.Sy.callable plain (by kernel_rfl))]; simp [c7 p7, c8 p8]) ?_
  rw [Oper.upon_enter]
  refine (hsteps w hw.1).mono ?_
  rintro e w' ⟨rfl, h1⟩
  dsimp only
  rw [hd]
  have hw2 : P0 wC w' (bxsN Zr Zq b Vr Vq A B) := ⟨hw.1.trans (h1.mono hw.1.size), hw.2.below h1⟩
  exact ⟨hF.put (by decide) _, V, Vr, Vq, A, B, fun hb' => (eval_other (by decide)).trans (c0 hb'), fun hb' => (eval_other (by decide)).trans (c1 hb'), fun hb' => (eval_other (by decide)).trans (c2 hb'), fun hb' => (eval_other (by decide)).trans (c3 hb'), fun hb' => (eval_other (by decide)).trans (c4 hb'), fun hb' => (eval_other (by decide)).trans (c5 hb'), fun hb' => (eval_other (by decide)).trans (c6 hb'), fun hb' => (eval_other (by decide)).trans (c7 hb'), fun hb' => (eval_other (by decide)).trans (c8 hb'), fun _ => (eval_same (by omega)).trans (rfl), fun hb' => (eval_other (by decide)).trans (c10 hb'), fun hb' => (eval_other (by decide)).trans (c11 hb'), fun hb' => (eval_other (by decide)).trans (c12 hb'), fun hb' => (eval_other (by decide)).trans (c13 hb'), fun hb' => (eval_other (by decide)).trans (c14 hb'), fun hb' => (eval_other (by decide)).trans (c15 hb'), fun hb' => (eval_other (by decide)).trans (c16 hb'), fun _ => rfl, fun hb' => k11_10 hb', fun hb' => k12_11 hb', fun hb' => k13_12 hb', fun hb' => k14_12 hb', fun hb' => k17_15 hb', fun hb' => k17_13 hb', fun hb' => k18_16 hb', fun hb' => k18_14 hb', hAB, (by rw [phs_e0N wC R1 R2 (b := fun j => if j = 9 then true else b j) n11 n10]; exact hw2)⟩
 ·obtain ⟨hop, hd, hg, hp⟩ := s10.get ho he
  have p0 := hp 0 (by simp)
  have p2 := hp 2 (by simp)
  have p4 := hp 4 (by simp)
  have p9 := hp 9 (by simp)
  refine wpOp_plain ho hg ?_
  have n10 : ¬ b 10 = true := by simp [hb]
  have n11 : ¬ b 11 = true := fun h => n10 (k11_10 h)
  unfold PhsN at hw
  rw [if_neg n11, if_neg n10] at hw
  refine op_any (n := .enter 12 #[.agg V0, .iface 32 (.pointer (some ⟨G, 0, none⟩)), .iface 35 (.pointer (some ⟨L, 0, none⟩)), .int .i64 st]) (w' := w) (by rw [show execOp a.eval o = callFunc 12 (#[] ++ (#[.tmp 117, .tmp 119, .tmp 121, .tmp 126] : Array Operand).map a.eval ++ #[]) from by unfold execOp; rw [hop]; rfl, Go.Sy.run_callFunc (Go.Sy.callable plain (by kernel_rfl))]; simp [c0 p0, c2 p2, c4 p4, c9 p9]) ?_
  rw [Oper.upon_enter]
  refine (hrun w _ hw).mono ?_
  rintro e w' ⟨V', rfl, h2⟩
  dsimp only
  rw [hd]
  exact ⟨hF.put (by decide) _, V', Vr, Vq, A, B, fun hb' => (eval_other (by decide)).trans (c0 hb'), fun hb' => (eval_other (by decide)).trans (c1 hb'), fun hb' => (eval_other (by decide)).trans (c2 hb'), fun hb' => (eval_other (by decide)).trans (c3 hb'), fun hb' => (eval_other (by decide)).trans (c4 hb'), fun hb' => (eval_other (by decide)).trans (c5 hb'), fun hb' => (eval_other (by decide)).trans (c6 hb'), fun hb' => (eval_other (by decide)).trans (c7 hb'), fun hb' => (eval_other (by decide)).trans (c8 hb'), fun hb' => (eval_other (by decide)).trans (c9 hb'), fun _ => (eval_same (by omega)).trans (rfl), fun hb' => (eval_other (by decide)).trans (c11 hb'), fun hb' => (eval_other (by decide)).trans (c12 hb'), fun hb' => (eval_other (by decide)).trans (c13 hb'), fun hb' => (eval_other (by decide)).trans (c14 hb'), fun hb' => (eval_other (by decide)).trans (c15 hb'), fun hb' => (eval_other (by decide)).trans (c16 hb'), fun _ => p9, fun _ => rfl, fun hb' => k12_11 hb', fun hb' => k13_12 hb', fun hb' => k14_12 hb', fun hb' => k17_15 hb', fun hb' => k17_13 hb', fun hb' => k18_16 hb', fun hb' => k18_14 hb', hAB, (by rw [phs_e1N wC R1 R2 (b := fun j => if j = 10 then true else b j) n11 rfl]; exact h2)⟩
 ·obtain ⟨hop, hd, hg, hp⟩ := s11.get ho he
  have p10 := hp 10 (by simp)
  refine wpOp_plain ho hg ?_
  have n11 : ¬ b 11 = true := by simp [hb]
  unfold PhsN at hw
  rw [if_neg n11, if_pos p10] at hw
  refine op_any (n := .enter 11 #[.agg V]) (w' := w) (by rw [show execOp a.eval o = callFunc 11 (#[] ++ (#[.tmp 127] : Array Operand).map a.eval ++ #[]) from by unfold execOp; rw [hop]; rfl, Go.Sy.run_callFunc (Go.Sy.callable plain (by kernel_rfl))]; simp [c10 p10]) ?_
  rw [Oper.upon_enter]
  refine (hstop w V _ hw).mono ?_
  rintro e w' ⟨Vr', Vq', rfl, h3⟩
  dsimp only
  rw [hd]
  have hbx : bxsN Zr Zq (fun j => if j = 11 then true else b j) Vr' Vq' A B = bxsN Zr Zq b Vr Vq A B := bx_eqN rfl rfl rfl rfl (fun h => absurd (k12_11 (k13_12 (k17_13 h))) n11) (fun h => absurd (k12_11 (k14_12 (k18_14 h))) n11)
  rw [← hbx] at h3
  exact ⟨hF.put (by decide) _, V, Vr', Vq', A, B, fun hb' => (eval_other (by decide)).trans (c0 hb'), fun hb' => (eval_other (by decide)).trans (c1 hb'), fun hb' => (eval_other (by decide)).trans (c2 hb'), fun hb' => (eval_other (by decide)).trans (c3 hb'), fun hb' => (eval_other (by decide)).trans (c4 hb'), fun hb' => (eval_other (by decide)).trans (c5 hb'), fun hb' => (eval_other (by decide)).trans (c6 hb'), fun hb' => (eval_other (by decide)).trans (c7 hb'), fun hb' => (eval_other (by decide)).trans (c8 hb'), fun hb' => (eval_other (by decide)).trans (c9 hb'), fun hb' => (eval_other (by decide)).trans (c10 hb'), fun _ => (eval_same (by omega)).trans (rfl), fun hb' => absurd (k12_11 hb') (by simp [hb]), fun hb' => absurd (k12_11 (k13_12 hb')) (by simp [hb]), fun hb' => absurd (k12_11 (k14_12 hb')) (by simp [hb]), fun hb' => (eval_other (by decide)).trans (c15 hb'), fun hb' => (eval_other (by decide)).trans (c16 hb'), fun hb' => k10_9 hb', fun _ => p10, fun _ => rfl, fun hb' => k13_12 hb', fun hb' => k14_12 hb', fun hb' => k17_15 hb', fun hb' => k17_13 hb', fun hb' => k18_16 hb', fun hb' => k18_14 hb', hAB, (by rw [phs_e2N wC R1 R2 (b := fun j => if j = 11 then true else b j) rfl]; exact h3)⟩
 ·obtain ⟨hop, hd, hg, hp⟩ := s12.get ho he
  have p11 := hp 11 (by simp)
  refine wpOp_plain ho hg ?_
  refine op_move (.inl hop) ?_
  rw [hd]
  exact ⟨hF.put (by decide) _, V, Vr, Vq, A, B, fun hb' => (eval_other (by decide)).trans (c0 hb'), fun hb' => (eval_other (by decide)).trans (c1 hb'), fun hb' => (eval_other (by decide)).trans (c2 hb'), fun hb' => (eval_other (by decide)).trans (c3 hb'), fun hb' => (eval_other (by decide)).trans (c4 hb'), fun hb' => (eval_other (by decide)).trans (c5 hb'), fun hb' => (eval_other (by decide)).trans (c6 hb'), fun hb' => (eval_other (by decide)).trans (c7 hb'), fun hb' => (eval_other (by decide)).trans (c8 hb'), fun hb' => (eval_other (by decide)).trans (c9 hb'), fun hb' => (eval_other (by decide)).trans (c10 hb'), fun hb' => (eval_other (by decide)).trans (c11 hb'), fun _ => (eval_same (by omega)).trans (c11 p11), fun hb' => (eval_other (by decide)).trans (c13 hb'), fun hb' => (eval_other (by decide)).trans (c14 hb'), fun hb' => (eval_other (by decide)).trans (c15 hb'), fun hb' => (eval_other (by decide)).trans (c16 hb'), fun hb' => k10_9 hb', fun hb' => k11_10 hb', fun _ => p11, fun _ => rfl, fun _ => rfl, fun hb' => k17_15 hb', fun hb' => k17_13 hb', fun hb' => k18_16 hb', fun hb' => k18_14 hb', hAB, phs_eqN _ _ _ rfl rfl (bx_eqN rfl rfl rfl rfl (fun _ => rfl) (fun _ => rfl)) hw⟩
 ·obtain ⟨hop, hd, hg, hp⟩ := s13.get ho he
  have p12 := hp 12 (by simp)
  refine wpOp_plain ho hg ?_
  refine op_any (n := .value (.agg Vr)) (by unfold execOp; simp only [hop]; rw [c12 p12]; rfl) ?_
  rw [Oper.upon_value, hd]
  exact ⟨hF.put (by decide) _, V, Vr, Vq, A, B, fun hb' => (eval_other (by decide)).trans (c0 hb'), fun hb' => (eval_other (by decide)).trans (c1 hb'), fun hb' => (eval_other (by decide)).trans (c2 hb'), fun hb' => (eval_other (by decide)).trans (c3 hb'), fun hb' => (eval_other (by decide)).trans (c4 hb'), fun hb' => (eval_other (by decide)).trans (c5 hb'), fun hb' => (eval_other (by decide)).trans (c6 hb'), fun hb' => (eval_other (by decide)).trans (c7 hb'), fun hb' => (eval_other (by decide)).trans (c8 hb'), fun hb' => (eval_other (by decide)).trans (c9 hb'), fun hb' => (eval_other (by decide)).trans (c10 hb'), fun hb' => (eval_other (by decide)).trans (c11 hb'), fun hb' => (eval_other (by decide)).trans (c12 hb'), fun _ => (eval_same (by omega)).trans (rfl), fun hb' => (eval_other (by decide)).trans (c14 hb'), fun hb' => (eval_other (by decide)).trans (c15 hb'), fun hb' => (eval_other (by decide)).trans (c16 hb'), fun hb' => k10_9 hb', fun hb' => k11_10 hb', fun hb' => k12_11 hb', fun _ => p12, fun hb' => k14_12 hb', fun hb' => k17_15 hb', fun _ => rfl, fun hb' => k18_16 hb', fun hb' => k18_14 hb', hAB, phs_eqN _ _ _ rfl rfl (bx_eqN rfl rfl rfl rfl (fun _ => rfl) (fun _ => rfl)) hw⟩
 ·obtain ⟨hop, hd, hg, hp⟩ := s14.get ho he
  have p12 := hp 12 (by simp)
  refine wpOp_plain ho hg ?_
  refine op_any (n := .value (.agg Vq)) (by unfold execOp; simp only [hop]; rw [c12 p12]; rfl) ?_
  rw [Oper.upon_value, hd]
  exact ⟨hF.put (by decide) _, V, Vr, Vq, A, B, fun hb' => (eval_other (by decide)).trans (c0 hb'), fun hb' => (eval_other (by decide)).trans (c1 hb'), fun hb' => (eval_other (by decide)).trans (c2 hb'), fun hb' => (eval_other (by decide)).trans (c3 hb'), fun hb' => (eval_other (by decide)).trans (c4 hb'), fun hb' => (eval_other (by decide)).trans (c5 hb'), fun hb' => (eval_other (by decide)).trans (c6 hb'), fun hb' => (eval_other (by decide)).trans (c7 hb'), fun hb' => (eval_other (by decide)).trans (c8 hb'), fun hb' => (eval_other (by decide)).trans (c9 hb'), fun hb' => (eval_other (by decide)).trans (c10 hb'), fun hb' => (eval_other (by decide)).trans (c11 hb'), fun hb' => (eval_other (by decide)).trans (c12 hb'), fun hb' => (eval_other (by decide)).trans (c13 hb'), fun _ => (eval_same (by omega)).trans (rfl), fun hb' => (eval_other (by decide)).trans (c15 hb'), fun hb' => (eval_other (by decide)).trans (c16 hb'), fun hb' => k10_9 hb', fun hb' => k11_10 hb', fun hb' => k12_11 hb', fun hb' => k13_12 hb', fun _ => p12, fun hb' => k17_15 hb', fun hb' => k17_13 hb', fun hb' => k18_16 hb', fun _ => rfl, hAB, phs_eqN _ _ _ rfl rfl (bx_eqN rfl rfl rfl rfl (fun _ => rfl) (fun _ => rfl)) hw⟩
 ·obtain ⟨hop, hd, hg, hp⟩ := s15.get ho he
  refine wpOp_plain ho hg ?_
  have hlt : b 16 = true → B < w.heap.size := fun h => (hg0.has hw).lt (bxBN h)
  have n17 : ¬ b 17 = true := fun h => by have := k17_15 h; rw [hb] at this; cases this
  have hw' := hg0.sub (bs' := bxsN Zr Zq (fun j => if j = 15 then true else b j) Vr Vq w.heap.size B) (hg0.al hw (.cells Zr 60 (0, 0))) (fun p hp => by
   rcases bx_casesN hp with ⟨h, e⟩ | ⟨h, e⟩
   ·rw [e, show (if (fun j => if j = 15 then true else b j) 17 = true then Vr else Zr) = Zr from if_neg n17]; exact List.mem_cons_self ..
   ·rw [e]; exact List.mem_cons_of_mem _ (bxBN h))
  refine op_alloc (v := .pointer (some ⟨w.heap.size, 0, none⟩)) (w' := w.alloc (.cells Zr 60 (0, 0))) hop (by rw [hZr]; rfl) ?_
  rw [hd]
  exact ⟨hF.put (by decide) _, V, Vr, Vq, w.heap.size, B, fun hb' => (eval_other (by decide)).trans (c0 hb'), fun hb' => (eval_other (by decide)).trans (c1 hb'), fun hb' => (eval_other (by decide)).trans (c2 hb'), fun hb' => (eval_other (by decide)).trans (c3 hb'), fun hb' => (eval_other (by decide)).trans (c4 hb'), fun hb' => (eval_other (by decide)).trans (c5 hb'), fun hb' => (eval_other (by decide)).trans (c6 hb'), fun hb' => (eval_other (by decide)).trans (c7 hb'), fun hb' => (eval_other (by decide)).trans (c8 hb'), fun hb' => (eval_other (by decide)).trans (c9 hb'), fun hb' => (eval_other (by decide)).trans (c10 hb'), fun hb' => (eval_other (by decide)).trans (c11 hb'), fun hb' => (eval_other (by decide)).trans (c12 hb'), fun hb' => (eval_other (by decide)).trans (c13 hb'), fun hb' => (eval_other (by decide)).trans (c14 hb'), fun _ => (eval_same (by omega)).trans (rfl), fun hb' => (eval_other (by decide)).trans (c16 hb'), fun hb' => k10_9 hb', fun hb' => k11_10 hb', fun hb' => k12_11 hb', fun hb' => k13_12 hb', fun hb' => k14_12 hb', fun _ => rfl, fun hb' => k17_13 hb', fun hb' => k18_16 hb', fun hb' => k18_14 hb', fun _ h => by have := hlt h; omega, hw'⟩
 ·obtain ⟨hop, hd, hg, hp⟩ := s16.get ho he
  refine wpOp_plain ho hg ?_
  have hlt : b 15 = true → A < w.heap.size := fun h => (hg0.has hw).lt (bxAN h)
  have n18 : ¬ b 18 = true := fun h => by have := k18_16 h; rw [hb] at this; cases this
  have hw' := hg0.sub (bs' := bxsN Zr Zq (fun j => if j = 16 then true else b j) Vr Vq A w.heap.size) (hg0.al hw (.cells Zq 30 (0, 0))) (fun p hp => by
   rcases bx_casesN hp with ⟨h, e⟩ | ⟨h, e⟩
   ·rw [e]; exact List.mem_cons_of_mem _ (bxAN h)
   ·rw [e, show (if (fun j => if j = 16 then true else b j) 18 = true then Vq else Zq) = Zq from if_neg n18]; exact List.mem_cons_self ..)
  refine op_alloc (v := .pointer (some ⟨w.heap.size, 0, none⟩)) (w' := w.alloc (.cells Zq 30 (0, 0))) hop (by rw [hZq]; rfl) ?_
  rw [hd]
  exact ⟨hF.put (by decide) _, V, Vr, Vq, A, w.heap.size, fun hb' => (eval_other (by decide)).trans (c0 hb'), fun hb' => (eval_other (by decide)).trans (c1 hb'), fun hb' => (eval_other (by decide)).trans (c2 hb'), fun hb' => (eval_other (by decide)).trans (c3 hb'), fun hb' => (eval_other (by decide)).trans (c4 hb'), fun hb' => (eval_other (by decide)).trans (c5 hb'), fun hb' => (eval_other (by decide)).trans (c6 hb'), fun hb' => (eval_other (by decide)).trans (c7 hb'), fun hb' => (eval_other (by decide)).trans (c8 hb'), fun hb' => (eval_other (by decide)).trans (c9 hb'), fun hb' => (eval_other (by decide)).trans (c10 hb'), fun hb' => (eval_other (by decide)).trans (c11 hb'), fun hb' => (eval_other (by decide)).trans (c12 hb'), fun hb' => (eval_other (by decide)).trans (c13 hb'), fun hb' => (eval_other (by decide)).trans (c14 hb'), fun hb' => (eval_other (by decide)).trans (c15 hb'), fun _ => (eval_same (by omega)).trans (rfl), fun hb' => k10_9 hb', fun hb' => k11_10 hb', fun hb' => k12_11 hb', fun hb' => k13_12 hb', fun hb' => k14_12 hb', fun hb' => k17_15 hb', fun hb' => k17_13 hb', fun _ => rfl, fun hb' => k18_14 hb', fun h _ => by have := hlt h; omega, hw'⟩
 ·obtain ⟨hop, hd, hg, hp⟩ := s17.get ho he
  have p15 := hp 15 (by simp)
  have p13 := hp 13 (by simp)
  refine wpOp_plain ho hg ?_
  have n17 : ¬ b 17 = true := by simp [hb]
  have p12 : b 12 = true := k13_12 p13
  have p11 : b 11 = true := k12_11 p12
  have hh := (hg0.has hw) _ (bxAN p15)
  rw [if_neg n17] at hh
  unfold PhsN at hw
  rw [if_pos p11] at hw
  obtain ⟨hs4, hs11, ho4, ho11⟩ := hsz2 hw
  have hrow : (Zr.toList.take 0 ++ (Vr).toList ++ Zr.toList.drop (0 + (Vr).size)).toArray = Vr := row_same (by rw [hs4, hZr]; rfl)
  have hst := run_storeAt_row (P := Tryz.prog) (ty := 60) (off := 0) (vals := Vr) hh.1 (by rw [hs4]; kernel_rfl) (by rw [hs4, hZr]; exact Nat.le_refl 4) ho4
  rw [hrow] at hst
  have hnew := setRow_heap w A _ (Vr) _ _ hh.1
  have hWr := Wrote.setRow A w (Vr)
  refine op_store (w' := w.setRow A (Vr)) hop (by rw [c15 p15, c13 p13]; exact hst) ?_
  rw [hd]
  have hbx : ∀ p ∈ bxsN Zr Zq (fun j => if j = 17 then true else b j) Vr Vq A B, (p = (A, Obj.cells (Vr) 60 (0, 0))) ∨ (b 16 = true ∧ p = (B, Obj.cells (if b 18 = true then Vq else Zq) 30 (0, 0))) := by
   intro p hp
   rcases bx_casesN hp with ⟨h, e⟩ | ⟨h, e⟩
   ·exact .inl e
   ·exact .inr ⟨h, e⟩
  have hw3 := hwr (bxX := A) (w' := w.setRow A (Vr)) (bs' := bxsN Zr Zq (fun j => if j = 17 then true else b j) Vr Vq A B) _ hw (bxAN p15) hWr (fun p hp => by
   rcases hbx p hp with e | ⟨h, e⟩
   ·rw [e]; exact ⟨hnew, hh.2⟩
   ·have hy := ((h2 Vr Vq).has hw) _ (bxBN h)
    rw [e]
    exact ⟨(hWr.other _ (Ne.symm (hAB p15 h))).trans hy.1, hy.2⟩) (fun p hp => by
   rcases hbx p hp with e | ⟨h, e⟩
   ·left; rw [e]
   ·right; rw [e]; exact bxBN h)
  exact ⟨hF.put0 _, V, Vr, Vq, A, B, fun hb' => c0 hb', fun hb' => c1 hb', fun hb' => c2 hb', fun hb' => c3 hb', fun hb' => c4 hb', fun hb' => c5 hb', fun hb' => c6 hb', fun hb' => c7 hb', fun hb' => c8 hb', fun hb' => c9 hb', fun hb' => c10 hb', fun hb' => c11 hb', fun hb' => c12 hb', fun hb' => c13 hb', fun hb' => c14 hb', fun hb' => c15 hb', fun hb' => c16 hb', fun hb' => k10_9 hb', fun hb' => k11_10 hb', fun hb' => k12_11 hb', fun hb' => k13_12 hb', fun hb' => k14_12 hb', fun _ => p15, fun _ => p13, fun hb' => k18_16 hb', fun hb' => k18_14 hb', hAB, (by rw [phs_e2N wC R1 R2 (b := fun j => if j = 17 then true else b j) p11]; exact hw3)⟩
 ·obtain ⟨hop, hd, hg, hp⟩ := s18.get ho he
  have p16 := hp 16 (by simp)
  have p14 := hp 14 (by simp)
  refine wpOp_plain ho hg ?_
  have n18 : ¬ b 18 = true := by simp [hb]
  have p12 : b 12 = true := k14_12 p14
  have p11 : b 11 = true := k12_11 p12
  have hh := (hg0.has hw) _ (bxBN p16)
  rw [if_neg n18] at hh
  unfold PhsN at hw
  rw [if_pos p11] at hw
  obtain ⟨hs4, hs11, ho4, ho11⟩ := hsz2 hw
  have hrow : (Zq.toList.take 0 ++ (Vq).toList ++ Zq.toList.drop (0 + (Vq).size)).toArray = Vq := row_same (by rw [hs11, hZq]; rfl)
  have hst := run_storeAt_row (P := Tryz.prog) (ty := 30) (off := 0) (vals := Vq) hh.1 (by rw [hs11]; kernel_rfl) (by rw [hs11, hZq]; exact Nat.le_refl 11) ho11
  rw [hrow] at hst
  have hnew := setRow_heap w B _ (Vq) _ _ hh.1
  have hWr := Wrote.setRow B w (Vq)
  refine op_store (w' := w.setRow B (Vq)) hop (by rw [c16 p16, c14 p14]; exact hst) ?_
  rw [hd]
  have hbx : ∀ p ∈ bxsN Zr Zq (fun j => if j = 18 then true else b j) Vr Vq A B, (p = (B, Obj.cells (Vq) 30 (0, 0))) ∨ (b 15 = true ∧ p = (A, Obj.cells (if b 17 = true then Vr else Zr) 60 (0, 0))) := by
   intro p hp
   rcases bx_casesN hp with ⟨h, e⟩ | ⟨h, e⟩
   ·exact .inr ⟨h, e⟩
   ·exact .inl e
  have hw3 := hwr (bxX := B) (w' := w.setRow B (Vq)) (bs' := bxsN Zr Zq (fun j => if j = 18 then true else b j) Vr Vq A B) _ hw (bxBN p16) hWr (fun p hp => by
   rcases hbx p hp with e | ⟨h, e⟩
   ·rw [e]; exact ⟨hnew, hh.2⟩
   ·have hy := ((h2 Vr Vq).has hw) _ (bxAN h)
    rw [e]
    exact ⟨(hWr.other _ (hAB h p16)).trans hy.1, hy.2⟩) (fun p hp => by
   rcases hbx p hp with e | ⟨h, e⟩
   ·left; rw [e]
   ·right; rw [e]; exact bxAN h)
  exact ⟨hF.put0 _, V, Vr, Vq, A, B, fun hb' => c0 hb', fun hb' => c1 hb', fun hb' => c2 hb', fun hb' => c3 hb', fun hb' => c4 hb', fun hb' => c5 hb', fun hb' => c6 hb', fun hb' => c7 hb', fun hb' => c8 hb', fun hb' => c9 hb', fun hb' => c10 hb', fun hb' => c11 hb', fun hb' => c12 hb', fun hb' => c13 hb', fun hb' => c14 hb', fun hb' => c15 hb', fun hb' => c16 hb', fun hb' => k10_9 hb', fun hb' => k11_10 hb', fun hb' => k12_11 hb', fun hb' => k13_12 hb', fun hb' => k14_12 hb', fun hb' => k17_15 hb', fun hb' => k17_13 hb', fun _ => p16, fun _ => p14, hAB, (by rw [phs_e2N wC R1 R2 (b := fun j => if j = 18 then true else b j) p11]; exact hw3)⟩
end Go.Proofs.YtiajboiobjfcoaaGreatDoor
