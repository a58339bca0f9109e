/-
  What is proved here: what the law's region 14 does, whatever the order of its operations.
  Conditions: what the calls in it return.
-/
import Derived.Test.YtiajboiobjfcoaaGreatDoorICalls
import Derived.Test.YtiajboiobjfcoaaGreatDoorIReg
namespace Go.Proofs.YtiajboiobjfcoaaGreatDoor
open Go.Proofs Go.RowKit
structure Good (wC : World) (S0 : Nat → Prop) (R : World → List (Nat × Obj) → Prop) : Prop where
 al : ∀ {w bs}, R w bs → ∀ o, R (w.alloc o) ((w.heap.size, o) :: bs)
 sub : ∀ {w bs bs'}, R w bs → (∀ p ∈ bs', p ∈ bs) → R w bs'
 has : ∀ {w bs}, R w bs → Has wC w bs
 kp : ∀ {w bs}, R w bs → ∀ g, g < wC.heap.size → ¬ S0 g → w.heap[g]? = wC.heap[g]?
theorem Good.p0 (wC : World) (S0 : Nat → Prop) : Good wC S0 (P0 wC) where
 al := fun h o => h.alloc o
 sub := fun h hs => ⟨h.1, fun p hp => h.2 p (hs p hp)⟩
 has := fun h => h.2
 kp := fun h g hg _ => h.1.block g hg
def bxs (Zr Zq : Array Value) (b : Nat → Bool) (Vr Vq : Array Value) (A B : Nat) : List (Nat × Obj) :=
 (if b 13 = true then [(A, .cells (if b 15 = true then Vr else Zr) 60 (0, 0))] else []) ++ (if b 14 = true then [(B, .cells (if b 16 = true then Vq else Zq) 30 (0, 0))] else [])
theorem bxA {Zr Zq : Array Value} {b : Nat → Bool} {Vr Vq : Array Value} {A B : Nat} (h : b 13 = true) : (A, Obj.cells (if b 15 = true then Vr else Zr) 60 (0, 0)) ∈ bxs Zr Zq b Vr Vq A B := by
 unfold bxs; rw [if_pos h]; simp
theorem bxB {Zr Zq : Array Value} {b : Nat → Bool} {Vr Vq : Array Value} {A B : Nat} (h : b 14 = true) : (B, Obj.cells (if b 16 = true then Vq else Zq) 30 (0, 0)) ∈ bxs Zr Zq b Vr Vq A B := by
 unfold bxs; rw [if_pos h]; simp
theorem bx_cases {Zr Zq : Array Value} {b : Nat → Bool} {Vr Vq : Array Value} {A B : Nat} {p : Nat × Obj} (h : p ∈ bxs Zr Zq b Vr Vq A B) : (b 13 = true ∧ p = (A, Obj.cells (if b 15 = true then Vr else Zr) 60 (0, 0))) ∨ (b 14 = true ∧ p = (B, Obj.cells (if b 16 = true then Vq else Zq) 30 (0, 0))) := by
 unfold bxs at h
 rcases List.mem_append.1 h with h | h
 ·split at h
  ·exact .inl ⟨by assumption, List.mem_singleton.1 h⟩
  ·exact nomatch h
 ·split at h
  ·exact .inr ⟨by assumption, List.mem_singleton.1 h⟩
  ·exact nomatch h
theorem bx_eq {Zr Zq : Array Value} {b b' : Nat → Bool} {Vr Vq Vr' Vq' : Array Value} {A B : Nat} (h13 : b' 13 = b 13) (h14 : b' 14 = b 14) (h15 : b' 15 = b 15) (h16 : b' 16 = b 16) (hr : b 15 = true → Vr' = Vr) (hq : b 16 = true → Vq' = Vq) : bxs Zr Zq b' Vr' Vq' A B = bxs Zr Zq b Vr Vq A B := by
 unfold bxs
 rw [h13, h14, h15, h16]
 by_cases h6 : b 15 = true
 ·rw [hr h6]
  by_cases h7 : b 16 = true
  ·rw [hq h7]
  ·rw [if_neg h7, if_neg h7]
 ·rw [if_neg h6, if_neg h6]
  by_cases h7 : b 16 = true
  ·rw [hq h7]
  ·rw [if_neg h7, if_neg h7]
section
variable (wC : World) (S0 : Nat → Prop) (R1 : Array Value → World → List (Nat × Obj) → Prop) (R2 : Array Value → Array Value → World → List (Nat × Obj) → Prop)
def Phs (b : Nat → Bool) (V Vr Vq : Array Value) (w : World) (bs : List (Nat × Obj)) : Prop :=
 if b 9 = true then R2 Vr Vq w bs else if b 8 = true then R1 V w bs else P0 wC w bs
theorem phs_e0 {b : Nat → Bool} {V Vr Vq : Array Value} {w : World} {bs : List (Nat × Obj)} (h9 : ¬ b 9 = true) (h8 : ¬ b 8 = true) : Phs wC R1 R2 b V Vr Vq w bs = P0 wC w bs := by unfold Phs; rw [if_neg h9, if_neg h8]
theorem phs_e1 {b : Nat → Bool} {V Vr Vq : Array Value} {w : World} {bs : List (Nat × Obj)} (h9 : ¬ b 9 = true) (h8 : b 8 = true) : Phs wC R1 R2 b V Vr Vq w bs = R1 V w bs := by unfold Phs; rw [if_neg h9, if_pos h8]
theorem phs_e2 {b : Nat → Bool} {V Vr Vq : Array Value} {w : World} {bs : List (Nat × Obj)} (h9 : b 9 = true) : Phs wC R1 R2 b V Vr Vq w bs = R2 Vr Vq w bs := by unfold Phs; rw [if_pos h9]
theorem phs_good (h1 : ∀ V, Good wC S0 (R1 V)) (h2 : ∀ Vr Vq, Good wC S0 (R2 Vr Vq)) (b : Nat → Bool) (V Vr Vq : Array Value) : Good wC S0 (Phs wC R1 R2 b V Vr Vq) := by
 unfold Phs
 split
 ·exact h2 Vr Vq
 ·split
  ·exact h1 V
  ·exact Good.p0 wC S0
theorem phs_eq {b b' : Nat → Bool} {V Vr Vq : Array Value} {w : World} {bs bs' : List (Nat × Obj)} (h9 : b' 9 = b 9) (h8 : b' 8 = b 8) (hb : bs' = bs) (h : Phs wC R1 R2 b V Vr Vq w bs) : Phs wC R1 R2 b' V Vr Vq w bs' := by
 unfold Phs at h ⊢
 rw [h9, h8, hb]
 exact h
def I14 (a0 : Act) (G L : Nat) (V0 xC Zr Zq : Array Value) (ix st : Int) (b : Nat → Bool) (a : Act) (w : World) : Prop :=
 Fr [59, 60, 61, 62, 63, 64, 65, 66, 67, 68, 58, 69, 70, 11, 12] a0 a ∧ ∃ (V Vr Vq : Array Value) (A B : Nat), (b 0 = true → a.eval (.tmp 59) = .agg V0) ∧
  (b 1 = true → a.eval (.tmp 60) = .pointer (some ⟨G, 0, none⟩)) ∧
  (b 2 = true → a.eval (.tmp 61) = .iface 32 (.pointer (some ⟨G, 0, none⟩))) ∧
  (b 3 = true → a.eval (.tmp 62) = .pointer (some ⟨L, 0, none⟩)) ∧
  (b 4 = true → a.eval (.tmp 63) = .iface 35 (.pointer (some ⟨L, 0, none⟩))) ∧
  (b 5 = true → a.eval (.tmp 64) = .agg xC) ∧
  (b 6 = true → a.eval (.tmp 65) = .int .i64 ix) ∧
  (b 7 = true → a.eval (.tmp 66) = .int .i64 st) ∧
  (b 8 = true → a.eval (.tmp 67) = .agg V) ∧
  (b 9 = true → a.eval (.tmp 68) = .tuple #[.agg Vr, .agg Vq]) ∧
  (b 10 = true → a.eval (.tmp 58) = .tuple #[.agg Vr, .agg Vq]) ∧
  (b 11 = true → a.eval (.tmp 69) = .agg Vr) ∧
  (b 12 = true → a.eval (.tmp 70) = .agg Vq) ∧
  (b 13 = true → a.eval (.tmp 11) = .pointer (some ⟨A, 0, none⟩)) ∧
  (b 14 = true → a.eval (.tmp 12) = .pointer (some ⟨B, 0, none⟩)) ∧
  (b 8 = true → b 7 = true) ∧ (b 9 = true → b 8 = true) ∧ (b 10 = true → b 9 = true) ∧ (b 11 = true → b 10 = true) ∧ (b 12 = true → b 10 = true) ∧ (b 15 = true → b 13 = true) ∧ (b 15 = true → b 11 = true) ∧ (b 16 = true → b 14 = true) ∧ (b 16 = true → b 12 = true) ∧ (b 13 = true → b 14 = true → A ≠ B) ∧ Phs wC R1 R2 b V Vr Vq w (bxs Zr Zq b Vr Vq A B)
end
def Sp (ops : Array Oper) (i : Nat) (op : Op) (dst : Option Tmp) (pre : List Nat) : Prop := ∃ o, ops[i]? = some o ∧ o.op = op ∧ o.dst = dst ∧ o.guard = none ∧ (pre.all fun j => o.after.toList.any fun e => (e.on == j) && Region.binds .any e) = true
theorem Sp.get {ops : Array Oper} {i : Nat} {op : Op} {dst : Option Tmp} {pre : List Nat} (h : Sp ops i op dst pre) {o : Oper} (ho : ops[i]? = some o) {b : Nat → Bool} (he : ∀ e ∈ o.after, Region.binds .any e = true → b e.on = true) : o.op = op ∧ o.dst = dst ∧ o.guard = none ∧ ∀ j ∈ pre, b j = true := by
 obtain ⟨o', h1, h2, h3, h4, h5⟩ := h
 rw [ho] at h1
 obtain rfl := Option.some.inj h1
 refine ⟨h2, h3, h4, fun j hj => ?_⟩
 obtain ⟨e, he1, he2⟩ := List.any_eq_true.1 (List.all_eq_true.1 h5 j hj)
 rw [Bool.and_eq_true, beq_iff_eq] at he2
 rw [← he2.1]
 exact he e (by simpa using he1) he2.2
set_option maxHeartbeats 4000000 in
set_option maxRecDepth 1000000 in
theorem r14 {ops : Array Oper} {Q : Exit → Act → World → Prop} {id : Nat} {a0 : Act} {wC : World} {S0 : Nat → Prop} {R1 : Array Value → World → List (Nat × Obj) → Prop} {R2 : Array Value → Array Value → World → List (Nat × Obj) → Prop} {G L X bW : Nat} {V0 xC Zr Zq : Array Value} {ix st : Int}
  (hback : edgesBack ops = true) (hn : ops.size = 17)
  (s0 : Sp ops 0 (.load 54 (.tmp 8)) (some 59) [])
  (s1 : Sp ops 1 (.move (.tmp 4)) (some 60) [])
  (s2 : Sp ops 2 (.makeInterface 32 (.tmp 60)) (some 61) [1])
  (s3 : Sp ops 3 (.move (.tmp 5)) (some 62) [])
  (s4 : Sp ops 4 (.makeInterface 35 (.tmp 62)) (some 63) [3])
  (s5 : Sp ops 5 (.load 25 (.tmp 1)) (some 64) [])
  (s6 : Sp ops 6 (.move (.tmp 7)) (some 65) [])
  (s7 : Sp ops 7 (.call { callee := .value (.func 13), args := #[.tmp 64, .tmp 65], argTypes := #[25, 3] }) (some 66) [5, 6])
  (s8 : Sp ops 8 (.call { callee := .value (.func 12), args := #[.tmp 59, .tmp 61, .tmp 63, .tmp 66], argTypes := #[54, 102, 104, 3] }) (some 67) [0, 2, 4, 7])
  (s9 : Sp ops 9 (.call { callee := .value (.func 11), args := #[.tmp 67], argTypes := #[54] }) (some 68) [8])
  (s10 : Sp ops 10 (.move (.tmp 68)) (some 58) [9])
  (s11 : Sp ops 11 (.extract (.tmp 58) 0) (some 69) [10])
  (s12 : Sp ops 12 (.extract (.tmp 58) 1) (some 70) [10])
  (s13 : Sp ops 13 (.alloc 60) (some 11) [])
  (s14 : Sp ops 14 (.alloc 30) (some 12) [])
  (s15 : Sp ops 15 (.store 60 (.tmp 11) (.tmp 69)) (none) [13, 11])
  (s16 : Sp ops 16 (.store 30 (.tmp 12) (.tmp 70)) (none) [14, 12])
  (hsz0 : a0.tmps.size = 207) (e1 : a0.eval (.tmp 1) = .pointer (some ⟨X, 0, none⟩)) (e4 : a0.eval (.tmp 4) = .pointer (some ⟨G, 0, none⟩)) (e5 : a0.eval (.tmp 5) = .pointer (some ⟨L, 0, none⟩)) (e7 : a0.eval (.tmp 7) = .int .i64 ix) (e8 : a0.eval (.tmp 8) = .pointer (some ⟨bW, 0, none⟩))
  (hW : wC.heap[bW]? = some (.cells V0 54 (0, 0))) (hWS : ¬ S0 bW) (hV47 : V0.size = 47) (hX : wC.heap[X]? = some (.cells xC 25 (0, 0))) (hXS : ¬ S0 X) (hxC : xC.size = 6)
  (hZr : Zr = #[.int .i64 0, .slice none 0 0, .int .i64 0, .slice none 0 0]) (hZq : Zq = #[.int .u8 0, .int .u8 0, .bool false, .int .u8 0, .int .i64 0, .int .i64 0, .int .u8 0, .int .u8 0, .int .u8 0, .bool false, .bool false])
  (h1 : ∀ V, Good wC S0 (R1 V)) (h2 : ∀ Vr Vq, Good wC S0 (R2 Vr Vq))
  (hsz2 : ∀ {Vr Vq w bs}, R2 Vr Vq w bs → Vr.size = 4 ∧ Vq.size = 11 ∧ Vr.toList.all (·.oneCell') = true ∧ Vq.toList.all (·.oneCell') = true)
  (hwr : ∀ {Vr Vq w w' bs bs' bxX} o, R2 Vr Vq w bs → (bxX, o) ∈ bs → Wrote bxX w w' → Has wC w' bs' → (∀ p ∈ bs', p.1 = bxX ∨ p ∈ bs) → R2 Vr Vq w' bs')
  (hsteps : ∀ w : World, Below wC.heap.size wC w → Calls Tryz.prog 13 #[.agg xC, .int .i64 ix] w fun e w' => e = .returned (.int .i64 st) ∧ Below w.heap.size w w')
  (hrun : ∀ (w : World) bs, P0 wC w bs → Calls Tryz.prog 12 #[.agg V0, .iface 32 (.pointer (some ⟨G, 0, none⟩)), .iface 35 (.pointer (some ⟨L, 0, none⟩)), .int .i64 st] w fun e w' => ∃ V, e = .returned (.agg V) ∧ R1 V w' bs)
  (hstop : ∀ (w : World) V bs, R1 V w bs → Calls Tryz.prog 11 #[.agg V] w fun e w' => ∃ Vr Vq, e = .returned (.tuple #[.agg Vr, .agg Vq]) ∧ R2 Vr Vq w' bs)
  (hQ : ∀ (a : Act) (w : World) (Vr Vq : Array Value) (A B : Nat), Fr [59, 60, 61, 62, 63, 64, 65, 66, 67, 68, 58, 69, 70, 11, 12] a0 a → a.eval (.tmp 11) = .pointer (some ⟨A, 0, none⟩) → a.eval (.tmp 12) = .pointer (some ⟨B, 0, none⟩) → R2 Vr Vq w [(A, .cells Vr 60 (0, 0)), (B, .cells Vq 30 (0, 0))] → A ≠ B → Q .normal a w) :
  (Code.region id ops true).wp Tryz.prog Q a0 wC := by
 refine region_inv (by kernel_rfl) hback (I14 wC R1 R2 a0 G L V0 xC Zr Zq ix st) ?_ ?_ ?_
 ·refine ⟨Fr.refl _ _, #[], #[], #[], 0, 0, (fun h => nomatch h), (fun h => nomatch h), (fun h => nomatch h), (fun h => nomatch h), (fun h => nomatch h), (fun h => nomatch h), (fun h => nomatch h), (fun h => nomatch h), (fun h => nomatch h), (fun h => nomatch h), (fun h => nomatch h), (fun h => nomatch h), (fun h => nomatch h), (fun h => nomatch h), (fun h => nomatch h), (fun h => nomatch h), (fun h => nomatch h), (fun h => nomatch h), (fun h => nomatch h), (fun h => nomatch h), (fun h => nomatch h), (fun h => nomatch h), (fun h => nomatch h), (fun h => nomatch h), (fun h => nomatch h), ?_⟩
  exact ⟨(Below.refl _ _).drew, fun p hp => nomatch hp⟩
 rotate_left
 ·rintro b a w hall ⟨hF, V, Vr, Vq, A, B, c0, c1, c2, c3, c4, c5, c6, c7, c8, c9, c10, c11, c12, c13, c14, k8_7, k9_8, k10_9, k11_10, k12_10, k15_13, k15_11, k16_14, k16_12, hAB, hw⟩
  rw [hn] at hall
  refine hQ a w Vr Vq A B hF (c13 (hall 13 (by decide))) (c14 (hall 14 (by decide))) ?_ (hAB (hall 13 (by decide)) (hall 14 (by decide)))
  unfold Phs bxs at hw
  rw [hall 9 (by decide), hall 13 (by decide), hall 14 (by decide), hall 15 (by decide), hall 16 (by decide)] at hw
  exact hw
 rintro b a w i o ho hb he ⟨hF, V, Vr, Vq, A, B, c0, c1, c2, c3, c4, c5, c6, c7, c8, c9, c10, c11, c12, c13, c14, k8_7, k9_8, k10_9, k11_10, k12_10, k15_13, k15_11, k16_14, k16_12, hAB, hw⟩
 have hi : i < 17 := by rw [← hn]; exact (Array.getElem?_eq_some_iff.1 ho).1
 have hsz : a.tmps.size = 207 := hF.size.trans hsz0
 have hg0 := phs_good wC S0 R1 R2 h1 h2 b V Vr Vq
 obtain rfl | rfl | rfl | rfl | rfl | rfl | rfl | rfl | rfl | rfl | rfl | rfl | rfl | rfl | rfl | rfl | rfl : i = 0 ∨ i = 1 ∨ i = 2 ∨ i = 3 ∨ i = 4 ∨ i = 5 ∨ i = 6 ∨ i = 7 ∨ i = 8 ∨ i = 9 ∨ i = 10 ∨ i = 11 ∨ i = 12 ∨ i = 13 ∨ i = 14 ∨ i = 15 ∨ i = 16 := by omega
 ·obtain ⟨hop, hd, hg, hp⟩ := s0.get ho he
  refine wpOp_plain ho hg ?_
  refine op_load hop (by rw [hF.eval (by decide), e8]; exact run_loadAt_row ((hg0.kp hw _ (Array.getElem?_eq_some_iff.1 hW).1 hWS).trans hW) Tryz.underlying54 rfl (by rw [hV47]; kernel_rfl)) ?_
  rw [hd]
  exact ⟨hF.put (by decide) _, V, Vr, Vq, A, B, fun _ => (eval_same (by omega)).trans (rfl), fun hb' => (eval_other (by decide)).trans (c1 hb'), fun hb' => (eval_other (by decide)).trans (c2 hb'), fun hb' => (eval_other (by decide)).trans (c3 hb'), fun hb' => (eval_other (by decide)).trans (c4 hb'), fun hb' => (eval_other (by decide)).trans (c5 hb'), fun hb' => (eval_other (by decide)).trans (c6 hb'), fun hb' => (eval_other (by decide)).trans (c7 hb'), fun hb' => (eval_other (by decide)).trans (c8 hb'), fun hb' => (eval_other (by decide)).trans (c9 hb'), fun hb' => (eval_other (by decide)).trans (c10 hb'), fun hb' => (eval_other (by decide)).trans (c11 hb'), fun hb' => (eval_other (by decide)).trans (c12 hb'), fun hb' => (eval_other (by decide)).trans (c13 hb'), fun hb' => (eval_other (by decide)).trans (c14 hb'), fun hb' => k8_7 hb', fun hb' => k9_8 hb', fun hb' => k10_9 hb', fun hb' => k11_10 hb', fun hb' => k12_10 hb', fun hb' => k15_13 hb', fun hb' => k15_11 hb', fun hb' => k16_14 hb', fun hb' => k16_12 hb', hAB, phs_eq _ _ _ rfl rfl (bx_eq rfl rfl rfl rfl (fun _ => rfl) (fun _ => rfl)) hw⟩
 ·obtain ⟨hop, hd, hg, hp⟩ := s1.get ho he
  refine wpOp_plain ho hg ?_
  refine op_move (.inl hop) ?_
  rw [hd]
  exact ⟨hF.put (by decide) _, V, Vr, Vq, A, B, fun hb' => (eval_other (by decide)).trans (c0 hb'), fun _ => (eval_same (by omega)).trans ((hF.eval (by decide)).trans e4), fun hb' => (eval_other (by decide)).trans (c2 hb'), fun hb' => (eval_other (by decide)).trans (c3 hb'), fun hb' => (eval_other (by decide)).trans (c4 hb'), fun hb' => (eval_other (by decide)).trans (c5 hb'), fun hb' => (eval_other (by decide)).trans (c6 hb'), fun hb' => (eval_other (by decide)).trans (c7 hb'), fun hb' => (eval_other (by decide)).trans (c8 hb'), fun hb' => (eval_other (by decide)).trans (c9 hb'), fun hb' => (eval_other (by decide)).trans (c10 hb'), fun hb' => (eval_other (by decide)).trans (c11 hb'), fun hb' => (eval_other (by decide)).trans (c12 hb'), fun hb' => (eval_other (by decide)).trans (c13 hb'), fun hb' => (eval_other (by decide)).trans (c14 hb'), fun hb' => k8_7 hb', fun hb' => k9_8 hb', fun hb' => k10_9 hb', fun hb' => k11_10 hb', fun hb' => k12_10 hb', fun hb' => k15_13 hb', fun hb' => k15_11 hb', fun hb' => k16_14 hb', fun hb' => k16_12 hb', hAB, phs_eq _ _ _ rfl rfl (bx_eq rfl rfl rfl rfl (fun _ => rfl) (fun _ => rfl)) hw⟩
 ·obtain ⟨hop, hd, hg, hp⟩ := s2.get ho he
  have p1 := hp 1 (by simp)
  refine wpOp_plain ho hg ?_
  refine op_iface hop (by rw [c1 p1]; rfl) ?_
  rw [hd]
  exact ⟨hF.put (by decide) _, V, Vr, Vq, A, B, fun hb' => (eval_other (by decide)).trans (c0 hb'), fun hb' => (eval_other (by decide)).trans (c1 hb'), fun _ => (eval_same (by omega)).trans (rfl), fun hb' => (eval_other (by decide)).trans (c3 hb'), fun hb' => (eval_other (by decide)).trans (c4 hb'), fun hb' => (eval_other (by decide)).trans (c5 hb'), fun hb' => (eval_other (by decide)).trans (c6 hb'), fun hb' => (eval_other (by decide)).trans (c7 hb'), fun hb' => (eval_other (by decide)).trans (c8 hb'), fun hb' => (eval_other (by decide)).trans (c9 hb'), fun hb' => (eval_other (by decide)).trans (c10 hb'), fun hb' => (eval_other (by decide)).trans (c11 hb'), fun hb' => (eval_other (by decide)).trans (c12 hb'), fun hb' => (eval_other (by decide)).trans (c13 hb'), fun hb' => (eval_other (by decide)).trans (c14 hb'), fun hb' => k8_7 hb', fun hb' => k9_8 hb', fun hb' => k10_9 hb', fun hb' => k11_10 hb', fun hb' => k12_10 hb', fun hb' => k15_13 hb', fun hb' => k15_11 hb', fun hb' => k16_14 hb', fun hb' => k16_12 hb', hAB, phs_eq _ _ _ rfl rfl (bx_eq rfl rfl rfl rfl (fun _ => rfl) (fun _ => rfl)) hw⟩
 ·obtain ⟨hop, hd, hg, hp⟩ := s3.get ho he
  refine wpOp_plain ho hg ?_
  refine op_move (.inl hop) ?_
  rw [hd]
  exact ⟨hF.put (by decide) _, V, Vr, Vq, A, B, fun hb' => (eval_other (by decide)).trans (c0 hb'), fun hb' => (eval_other (by decide)).trans (c1 hb'), fun hb' => (eval_other (by decide)).trans (c2 hb'), fun _ => (eval_same (by omega)).trans ((hF.eval (by decide)).trans e5), fun hb' => (eval_other (by decide)).trans (c4 hb'), fun hb' => (eval_other (by decide)).trans (c5 hb'), fun hb' => (eval_other (by decide)).trans (c6 hb'), fun hb' => (eval_other (by decide)).trans (c7 hb'), fun hb' => (eval_other (by decide)).trans (c8 hb'), fun hb' => (eval_other (by decide)).trans (c9 hb'), fun hb' => (eval_other (by decide)).trans (c10 hb'), fun hb' => (eval_other (by decide)).trans (c11 hb'), fun hb' => (eval_other (by decide)).trans (c12 hb'), fun hb' => (eval_other (by decide)).trans (c13 hb'), fun hb' => (eval_other (by decide)).trans (c14 hb'), fun hb' => k8_7 hb', fun hb' => k9_8 hb', fun hb' => k10_9 hb', fun hb' => k11_10 hb', fun hb' => k12_10 hb', fun hb' => k15_13 hb', fun hb' => k15_11 hb', fun hb' => k16_14 hb', fun hb' => k16_12 hb', hAB, phs_eq _ _ _ rfl rfl (bx_eq rfl rfl rfl rfl (fun _ => rfl) (fun _ => rfl)) hw⟩
 ·obtain ⟨hop, hd, hg, hp⟩ := s4.get ho he
  have p3 := hp 3 (by simp)
  refine wpOp_plain ho hg ?_
  refine op_iface hop (by rw [c3 p3]; rfl) ?_
  rw [hd]
  exact ⟨hF.put (by decide) _, V, Vr, Vq, A, B, fun hb' => (eval_other (by decide)).trans (c0 hb'), fun hb' => (eval_other (by decide)).trans (c1 hb'), fun hb' => (eval_other (by decide)).trans (c2 hb'), fun hb' => (eval_other (by decide)).trans (c3 hb'), fun _ => (eval_same (by omega)).trans (rfl), fun hb' => (eval_other (by decide)).trans (c5 hb'), fun hb' => (eval_other (by decide)).trans (c6 hb'), fun hb' => (eval_other (by decide)).trans (c7 hb'), fun hb' => (eval_other (by decide)).trans (c8 hb'), fun hb' => (eval_other (by decide)).trans (c9 hb'), fun hb' => (eval_other (by decide)).trans (c10 hb'), fun hb' => (eval_other (by decide)).trans (c11 hb'), fun hb' => (eval_other (by decide)).trans (c12 hb'), fun hb' => (eval_other (by decide)).trans (c13 hb'), fun hb' => (eval_other (by decide)).trans (c14 hb'), fun hb' => k8_7 hb', fun hb' => k9_8 hb', fun hb' => k10_9 hb', fun hb' => k11_10 hb', fun hb' => k12_10 hb', fun hb' => k15_13 hb', fun hb' => k15_11 hb', fun hb' => k16_14 hb', fun hb' => k16_12 hb', hAB, phs_eq _ _ _ rfl rfl (bx_eq rfl rfl rfl rfl (fun _ => rfl) (fun _ => rfl)) hw⟩
 ·obtain ⟨hop, hd, hg, hp⟩ := s5.get ho he
  refine wpOp_plain ho hg ?_
  refine op_load hop (by rw [hF.eval (by decide), e1]; exact run_loadAt_row ((hg0.kp hw _ (Array.getElem?_eq_some_iff.1 hX).1 hXS).trans hX) Tryz.underlying25 rfl (by rw [hxC]; kernel_rfl)) ?_
  rw [hd]
  exact ⟨hF.put (by decide) _, V, Vr, Vq, A, B, fun hb' => (eval_other (by decide)).trans (c0 hb'), fun hb' => (eval_other (by decide)).trans (c1 hb'), fun hb' => (eval_other (by decide)).trans (c2 hb'), fun hb' => (eval_other (by decide)).trans (c3 hb'), fun hb' => (eval_other (by decide)).trans (c4 hb'), fun _ => (eval_same (by omega)).trans (rfl), fun hb' => (eval_other (by decide)).trans (c6 hb'), fun hb' => (eval_other (by decide)).trans (c7 hb'), fun hb' => (eval_other (by decide)).trans (c8 hb'), fun hb' => (eval_other (by decide)).trans (c9 hb'), fun hb' => (eval_other (by decide)).trans (c10 hb'), fun hb' => (eval_other (by decide)).trans (c11 hb'), fun hb' => (eval_other (by decide)).trans (c12 hb'), fun hb' => (eval_other (by decide)).trans (c13 hb'), fun hb' => (eval_other (by decide)).trans (c14 hb'), fun hb' => k8_7 hb', fun hb' => k9_8 hb', fun hb' => k10_9 hb', fun hb' => k11_10 hb', fun hb' => k12_10 hb', fun hb' => k15_13 hb', fun hb' => k15_11 hb', fun hb' => k16_14 hb', fun hb' => k16_12 hb', hAB, phs_eq _ _ _ rfl rfl (bx_eq rfl rfl rfl rfl (fun _ => rfl) (fun _ => rfl)) hw⟩
 ·obtain ⟨hop, hd, hg, hp⟩ := s6.get ho he
  refine wpOp_plain ho hg ?_
  refine op_move (.inl hop) ?_
  rw [hd]
  exact ⟨hF.put (by decide) _, V, Vr, Vq, A, B, fun hb' => (eval_other (by decide)).trans (c0 hb'), fun hb' => (eval_other (by decide)).trans (c1 hb'), fun hb' => (eval_other (by decide)).trans (c2 hb'), fun hb' => (eval_other (by decide)).trans (c3 hb'), fun hb' => (eval_other (by decide)).trans (c4 hb'), fun hb' => (eval_other (by decide)).trans (c5 hb'), fun _ => (eval_same (by omega)).trans ((hF.eval (by decide)).trans e7), fun hb' => (eval_other (by decide)).trans (c7 hb'), fun hb' => (eval_other (by decide)).trans (c8 hb'), fun hb' => (eval_other (by decide)).trans (c9 hb'), fun hb' => (eval_other (by decide)).trans (c10 hb'), fun hb' => (eval_other (by decide)).trans (c11 hb'), fun hb' => (eval_other (by decide)).trans (c12 hb'), fun hb' => (eval_other (by decide)).trans (c13 hb'), fun hb' => (eval_other (by decide)).trans (c14 hb'), fun hb' => k8_7 hb', fun hb' => k9_8 hb', fun hb' => k10_9 hb', fun hb' => k11_10 hb', fun hb' => k12_10 hb', fun hb' => k15_13 hb', fun hb' => k15_11 hb', fun hb' => k16_14 hb', fun hb' => k16_12 hb', hAB, phs_eq _ _ _ rfl rfl (bx_eq rfl rfl rfl rfl (fun _ => rfl) (fun _ => rfl)) hw⟩
 ·obtain ⟨hop, hd, hg, hp⟩ := s7.get ho he
  have p5 := hp 5 (by simp)
  have p6 := hp 6 (by simp)
  refine wpOp_plain ho hg ?_
  have n8 : ¬ b 8 = true := fun h => by have := k8_7 h; rw [hb] at this; cases this
  have n9 : ¬ b 9 = true := fun h => n8 (k9_8 h)
  unfold Phs at hw
  rw [if_neg n9, if_neg n8] at hw
  refine op_any (n := .enter 13 #[.agg xC, .int .i64 ix]) (w' := w) (by rw [show execOp a.eval o = callFunc 13 (#[] ++ (#[.tmp 64, .tmp 65] : Array Operand).map a.eval ++ #[]) from by unfold execOp; rw [hop]; rfl, Go.Sy.run_callFunc (Go.Sy.callable plain (by kernel_rfl))]; simp [c5 p5, c6 p6]) ?_
  rw [Oper.upon_enter]
  refine (hsteps w hw.1).mono ?_
  rintro e w' ⟨rfl, h1⟩
  dsimp only
  rw [hd]
  have hw2 : P0 wC w' (bxs Zr Zq b Vr Vq A B) := ⟨hw.1.trans (h1.mono hw.1.size), hw.2.below h1⟩
  exact ⟨hF.put (by decide) _, V, Vr, Vq, A, B, fun hb' => (eval_other (by decide)).trans (c0 hb'), fun hb' => (eval_other (by decide)).trans (c1 hb'), fun hb' => (eval_other (by decide)).trans (c2 hb'), fun hb' => (eval_other (by decide)).trans (c3 hb'), fun hb' => (eval_other (by decide)).trans (c4 hb'), fun hb' => (eval_other (by decide)).trans (c5 hb'), fun hb' => (eval_other (by decide)).trans (c6 hb'), fun _ => (eval_same (by omega)).trans (rfl), fun hb' => (eval_other (by decide)).trans (c8 hb'), fun hb' => (eval_other (by decide)).trans (c9 hb'), fun hb' => (eval_other (by decide)).trans (c10 hb'), fun hb' => (eval_other (by decide)).trans (c11 hb'), fun hb' => (eval_other (by decide)).trans (c12 hb'), fun hb' => (eval_other (by decide)).trans (c13 hb'), fun hb' => (eval_other (by decide)).trans (c14 hb'), fun _ => rfl, fun hb' => k9_8 hb', fun hb' => k10_9 hb', fun hb' => k11_10 hb', fun hb' => k12_10 hb', fun hb' => k15_13 hb', fun hb' => k15_11 hb', fun hb' => k16_14 hb', fun hb' => k16_12 hb', hAB, (by rw [phs_e0 wC R1 R2 (b := fun j => if j = 7 then true else b j) n9 n8]; exact hw2)⟩
 ·obtain ⟨hop, hd, hg, hp⟩ := s8.get ho he
  have p0 := hp 0 (by simp)
  have p2 := hp 2 (by simp)
  have p4 := hp 4 (by simp)
  have p7 := hp 7 (by simp)
  refine wpOp_plain ho hg ?_
  have n8 : ¬ b 8 = true := by simp [hb]
  have n9 : ¬ b 9 = true := fun h => n8 (k9_8 h)
  unfold Phs at hw
  rw [if_neg n9, if_neg n8] at hw
  refine op_any (n := .enter 12 #[.agg V0, .iface 32 (.pointer (some ⟨G, 0, none⟩)), .iface 35 (.pointer (some ⟨L, 0, none⟩)), .int .i64 st]) (w' := w) (by rw [show execOp a.eval o = callFunc 12 (#[] ++ (#[.tmp 59, .tmp 61, .tmp 63, .tmp 66] : Array Operand).map a.eval ++ #[]) from by unfold execOp; rw [hop]; rfl, Go.Sy.run_callFunc (Go.Sy.callable plain (by kernel_rfl))]; simp [c0 p0, c2 p2, c4 p4, c7 p7]) ?_
  rw [Oper.upon_enter]
  refine (hrun w _ hw).mono ?_
  rintro e w' ⟨V', rfl, h2⟩
  dsimp only
  rw [hd]
  exact ⟨hF.put (by decide) _, V', Vr, Vq, A, B, fun hb' => (eval_other (by decide)).trans (c0 hb'), fun hb' => (eval_other (by decide)).trans (c1 hb'), fun hb' => (eval_other (by decide)).trans (c2 hb'), fun hb' => (eval_other (by decide)).trans (c3 hb'), fun hb' => (eval_other (by decide)).trans (c4 hb'), fun hb' => (eval_other (by decide)).trans (c5 hb'), fun hb' => (eval_other (by decide)).trans (c6 hb'), fun hb' => (eval_other (by decide)).trans (c7 hb'), fun _ => (eval_same (by omega)).trans (rfl), fun hb' => (eval_other (by decide)).trans (c9 hb'), fun hb' => (eval_other (by decide)).trans (c10 hb'), fun hb' => (eval_other (by decide)).trans (c11 hb'), fun hb' => (eval_other (by decide)).trans (c12 hb'), fun hb' => (eval_other (by decide)).trans (c13 hb'), fun hb' => (eval_other (by decide)).trans (c14 hb'), fun _ => p7, fun _ => rfl, fun hb' => k10_9 hb', fun hb' => k11_10 hb', fun hb' => k12_10 hb', fun hb' => k15_13 hb', fun hb' => k15_11 hb', fun hb' => k16_14 hb', fun hb' => k16_12 hb', hAB, (by rw [phs_e1 wC R1 R2 (b := fun j => if j = 8 then true else b j) n9 rfl]; exact h2)⟩
 ·obtain ⟨hop, hd, hg, hp⟩ := s9.get ho he
  have p8 := hp 8 (by simp)
  refine wpOp_plain ho hg ?_
  have n9 : ¬ b 9 = true := by simp [hb]
  unfold Phs at hw
  rw [if_neg n9, if_pos p8] at hw
  refine op_any (n := .enter 11 #[.agg V]) (w' := w) (by rw [show execOp a.eval o = callFunc 11 (#[] ++ (#[.tmp 67] : Array Operand).map a.eval ++ #[]) from by unfold execOp; rw [hop]; rfl, Go.Sy.run_callFunc (Go.Sy.callable plain (by kernel_rfl))]; simp [c8 p8]) ?_
  rw [Oper.upon_enter]
  refine (hstop w V _ hw).mono ?_
  rintro e w' ⟨Vr', Vq', rfl, h3⟩
  dsimp only
  rw [hd]
  have hbx : bxs Zr Zq (fun j => if j = 9 then true else b j) Vr' Vq' A B = bxs Zr Zq b Vr Vq A B := bx_eq rfl rfl rfl rfl (fun h => absurd (k10_9 (k11_10 (k15_11 h))) n9) (fun h => absurd (k10_9 (k12_10 (k16_12 h))) n9)
  rw [← hbx] at h3
  exact ⟨hF.put (by decide) _, V, Vr', Vq', A, B, fun hb' => (eval_other (by decide)).trans (c0 hb'), fun hb' => (eval_other (by decide)).trans (c1 hb'), fun hb' => (eval_other (by decide)).trans (c2 hb'), fun hb' => (eval_other (by decide)).trans (c3 hb'), fun hb' => (eval_other (by decide)).trans (c4 hb'), fun hb' => (eval_other (by decide)).trans (c5 hb'), fun hb' => (eval_other (by decide)).trans (c6 hb'), fun hb' => (eval_other (by decide)).trans (c7 hb'), fun hb' => (eval_other (by decide)).trans (c8 hb'), fun _ => (eval_same (by omega)).trans (rfl), fun hb' => absurd (k10_9 hb') (by simp [hb]), fun hb' => absurd (k10_9 (k11_10 hb')) (by simp [hb]), fun hb' => absurd (k10_9 (k12_10 hb')) (by simp [hb]), fun hb' => (eval_other (by decide)).trans (c13 hb'), fun hb' => (eval_other (by decide)).trans (c14 hb'), fun hb' => k8_7 hb', fun _ => p8, fun _ => rfl, fun hb' => k11_10 hb', fun hb' => k12_10 hb', fun hb' => k15_13 hb', fun hb' => k15_11 hb', fun hb' => k16_14 hb', fun hb' => k16_12 hb', hAB, (by rw [phs_e2 wC R1 R2 (b := fun j => if j = 9 then true else b j) rfl]; exact h3)⟩
 ·obtain ⟨hop, hd, hg, hp⟩ := s10.get ho he
  have p9 := hp 9 (by simp)
  refine wpOp_plain ho hg ?_
  refine op_move (.inl hop) ?_
  rw [hd]
  exact ⟨hF.put (by decide) _, V, Vr, Vq, A, B, fun hb' => (eval_other (by decide)).trans (c0 hb'), fun hb' => (eval_other (by decide)).trans (c1 hb'), fun hb' => (eval_other (by decide)).trans (c2 hb'), fun hb' => (eval_other (by decide)).trans (c3 hb'), fun hb' => (eval_other (by decide)).trans (c4 hb'), fun hb' => (eval_other (by decide)).trans (c5 hb'), fun hb' => (eval_other (by decide)).trans (c6 hb'), fun hb' => (eval_other (by decide)).trans (c7 hb'), fun hb' => (eval_other (by decide)).trans (c8 hb'), fun hb' => (eval_other (by decide)).trans (c9 hb'), fun _ => (eval_same (by omega)).trans (c9 p9), fun hb' => (eval_other (by decide)).trans (c11 hb'), fun hb' => (eval_other (by decide)).trans (c12 hb'), fun hb' => (eval_other (by decide)).trans (c13 hb'), fun hb' => (eval_other (by decide)).trans (c14 hb'), fun hb' => k8_7 hb', fun hb' => k9_8 hb', fun _ => p9, fun _ => rfl, fun _ => rfl, fun hb' => k15_13 hb', fun hb' => k15_11 hb', fun hb' => k16_14 hb', fun hb' => k16_12 hb', hAB, phs_eq _ _ _ rfl rfl (bx_eq rfl rfl rfl rfl (fun _ => rfl) (fun _ => rfl)) hw⟩
 ·obtain ⟨hop, hd, hg, hp⟩ := s11.get ho he
  have p10 := hp 10 (by simp)
  refine wpOp_plain ho hg ?_
  refine op_any (n := .value (.agg Vr)) (by unfold execOp; simp only [hop]; rw [c10 p10]; rfl) ?_
  rw [Oper.upon_value, hd]
  exact ⟨hF.put (by decide) _, V, Vr, Vq, A, B, fun hb' => (eval_other (by decide)).trans (c0 hb'), fun hb' => (eval_other (by decide)).trans (c1 hb'), fun hb' => (eval_other (by decide)).trans (c2 hb'), fun hb' => (eval_other (by decide)).trans (c3 hb'), fun hb' => (eval_other (by decide)).trans (c4 hb'), fun hb' => (eval_other (by decide)).trans (c5 hb'), fun hb' => (eval_other (by decide)).trans (c6 hb'), fun hb' => (eval_other (by decide)).trans (c7 hb'), fun hb' => (eval_other (by decide)).trans (c8 hb'), fun hb' => (eval_other (by decide)).trans (c9 hb'), fun hb' => (eval_other (by decide)).trans (c10 hb'), fun _ => (eval_same (by omega)).trans (rfl), fun hb' => (eval_other (by decide)).trans (c12 hb'), fun hb' => (eval_other (by decide)).trans (c13 hb'), fun hb' => (eval_other (by decide)).trans (c14 hb'), fun hb' => k8_7 hb', fun hb' => k9_8 hb', fun hb' => k10_9 hb', fun _ => p10, fun hb' => k12_10 hb', fun hb' => k15_13 hb', fun _ => rfl, fun hb' => k16_14 hb', fun hb' => k16_12 hb', hAB, phs_eq _ _ _ rfl rfl (bx_eq rfl rfl rfl rfl (fun _ => rfl) (fun _ => rfl)) hw⟩
 ·obtain ⟨hop, hd, hg, hp⟩ := s12.get ho he
  have p10 := hp 10 (by simp)
  refine wpOp_plain ho hg ?_
  refine op_any (n := .value (.agg Vq)) (by unfold execOp; simp only [hop]; rw [c10 p10]; rfl) ?_
  rw [Oper.upon_value, hd]
  exact ⟨hF.put (by decide) _, V, Vr, Vq, A, B, fun hb' => (eval_other (by decide)).trans (c0 hb'), fun hb' => (eval_other (by decide)).trans (c1 hb'), fun hb' => (eval_other (by decide)).trans (c2 hb'), fun hb' => (eval_other (by decide)).trans (c3 hb'), fun hb' => (eval_other (by decide)).trans (c4 hb'), fun hb' => (eval_other (by decide)).trans (c5 hb'), fun hb' => (eval_other (by decide)).trans (c6 hb'), fun hb' => (eval_other (by decide)).trans (c7 hb'), fun hb' => (eval_other (by decide)).trans (c8 hb'), fun hb' => (eval_other (by decide)).trans (c9 hb'), fun hb' => (eval_other (by decide)).trans (c10 hb'), fun hb' => (eval_other (by decide)).trans (c11 hb'), fun _ => (eval_same (by omega)).trans (rfl), fun hb' => (eval_other (by decide)).trans (c13 hb'), fun hb' => (eval_other (by decide)).trans (c14 hb'), fun hb' => k8_7 hb', fun hb' => k9_8 hb', fun hb' => k10_9 hb', fun hb' => k11_10 hb', fun _ => p10, fun hb' => k15_13 hb', fun hb' => k15_11 hb', fun hb' => k16_14 hb', fun _ => rfl, hAB, phs_eq _ _ _ rfl rfl (bx_eq rfl rfl rfl rfl (fun _ => rfl) (fun _ => rfl)) hw⟩
 ·obtain ⟨hop, hd, hg, hp⟩ := s13.get ho he
  refine wpOp_plain ho hg ?_
  have hlt : b 14 = true → B < w.heap.size := fun h => (hg0.has hw).lt (bxB h)
  have n15 : ¬ b 15 = true := fun h => by have := k15_13 h; rw [hb] at this; cases this
  have hw' := hg0.sub (bs' := bxs Zr Zq (fun j => if j = 13 then true else b j) Vr Vq w.heap.size B) (hg0.al hw (.cells Zr 60 (0, 0))) (fun p hp => by
   rcases bx_cases hp with ⟨h, e⟩ | ⟨h, e⟩
   ·rw [e, show (if (fun j => if j = 13 then true else b j) 15 = true then Vr else Zr) = Zr from if_neg n15]; exact List.mem_cons_self ..
   ·rw [e]; exact List.mem_cons_of_mem _ (bxB h))
  refine op_alloc (v := .pointer (some ⟨w.heap.size, 0, none⟩)) (w' := w.alloc (.cells Zr 60 (0, 0))) hop (by rw [hZr]; rfl) ?_
  rw [hd]
  exact ⟨hF.put (by decide) _, V, Vr, Vq, w.heap.size, B, fun hb' => (eval_other (by decide)).trans (c0 hb'), fun hb' => (eval_other (by decide)).trans (c1 hb'), fun hb' => (eval_other (by decide)).trans (c2 hb'), fun hb' => (eval_other (by decide)).trans (c3 hb'), fun hb' => (eval_other (by decide)).trans (c4 hb'), fun hb' => (eval_other (by decide)).trans (c5 hb'), fun hb' => (eval_other (by decide)).trans (c6 hb'), fun hb' => (eval_other (by decide)).trans (c7 hb'), fun hb' => (eval_other (by decide)).trans (c8 hb'), fun hb' => (eval_other (by decide)).trans (c9 hb'), fun hb' => (eval_other (by decide)).trans (c10 hb'), fun hb' => (eval_other (by decide)).trans (c11 hb'), fun hb' => (eval_other (by decide)).trans (c12 hb'), fun _ => (eval_same (by omega)).trans (rfl), fun hb' => (eval_other (by decide)).trans (c14 hb'), fun hb' => k8_7 hb', fun hb' => k9_8 hb', fun hb' => k10_9 hb', fun hb' => k11_10 hb', fun hb' => k12_10 hb', fun _ => rfl, fun hb' => k15_11 hb', fun hb' => k16_14 hb', fun hb' => k16_12 hb', fun _ h => by have := hlt h; omega, hw'⟩
 ·obtain ⟨hop, hd, hg, hp⟩ := s14.get ho he
  refine wpOp_plain ho hg ?_
  have hlt : b 13 = true → A < w.heap.size := fun h => (hg0.has hw).lt (bxA h)
  have n16 : ¬ b 16 = true := fun h => by have := k16_14 h; rw [hb] at this; cases this
  have hw' := hg0.sub (bs' := bxs Zr Zq (fun j => if j = 14 then true else b j) Vr Vq A w.heap.size) (hg0.al hw (.cells Zq 30 (0, 0))) (fun p hp => by
   rcases bx_cases hp with ⟨h, e⟩ | ⟨h, e⟩
   ·rw [e]; exact List.mem_cons_of_mem _ (bxA h)
   ·rw [e, show (if (fun j => if j = 14 then true else b j) 16 = true then Vq else Zq) = Zq from if_neg n16]; exact List.mem_cons_self ..)
  refine op_alloc (v := .pointer (some ⟨w.heap.size, 0, none⟩)) (w' := w.alloc (.cells Zq 30 (0, 0))) hop (by rw [hZq]; rfl) ?_
  rw [hd]
  exact ⟨hF.put (by decide) _, V, Vr, Vq, A, w.heap.size, fun hb' => (eval_other (by decide)).trans (c0 hb'), fun hb' => (eval_other (by decide)).trans (c1 hb'), fun hb' => (eval_other (by decide)).trans (c2 hb'), fun hb' => (eval_other (by decide)).trans (c3 hb'), fun hb' => (eval_other (by decide)).trans (c4 hb'), fun hb' => (eval_other (by decide)).trans (c5 hb'), fun hb' => (eval_other (by decide)).trans (c6 hb'), fun hb' => (eval_other (by decide)).trans (c7 hb'), fun hb' => (eval_other (by decide)).trans (c8 hb'), fun hb' => (eval_other (by decide)).trans (c9 hb'), fun hb' => (eval_other (by decide)).trans (c10 hb'), fun hb' => (eval_other (by decide)).trans (c11 hb'), fun hb' => (eval_other (by decide)).trans (c12 hb'), fun hb' => (eval_other (by decide)).trans (c13 hb'), fun _ => (eval_same (by omega)).trans (rfl), fun hb' => k8_7 hb', fun hb' => k9_8 hb', fun hb' => k10_9 hb', fun hb' => k11_10 hb', fun hb' => k12_10 hb', fun hb' => k15_13 hb', fun hb' => k15_11 hb', fun _ => rfl, fun hb' => k16_12 hb', fun h _ => by have := hlt h; omega, hw'⟩
 ·obtain ⟨hop, hd, hg, hp⟩ := s15.get ho he
  have p13 := hp 13 (by simp)
  have p11 := hp 11 (by simp)
  refine wpOp_plain ho hg ?_
  have n15 : ¬ b 15 = true := by simp [hb]
  have p10 : b 10 = true := k11_10 p11
  have p9 : b 9 = true := k10_9 p10
  have hh := (hg0.has hw) _ (bxA p13)
  rw [if_neg n15] at hh
  unfold Phs at hw
  rw [if_pos p9] at hw
  obtain ⟨hs4, hs11, ho4, ho11⟩ := hsz2 hw
  have hrow : (Zr.toList.take 0 ++ (Vr).toList ++ Zr.toList.drop (0 + (Vr).size)).toArray = Vr := row_same (by rw [hs4, hZr]; rfl)
  have hst := run_storeAt_row (P := Tryz.prog) (ty := 60) (off := 0) (vals := Vr) hh.1 (by rw [hs4]; kernel_rfl) (by rw [hs4, hZr]; exact Nat.le_refl 4) ho4
  rw [hrow] at hst
  have hnew := setRow_heap w A _ (Vr) _ _ hh.1
  have hWr := Wrote.setRow A w (Vr)
  refine op_store (w' := w.setRow A (Vr)) hop (by rw [c13 p13, c11 p11]; exact hst) ?_
  rw [hd]
  have hbx : ∀ p ∈ bxs Zr Zq (fun j => if j = 15 then true else b j) Vr Vq A B, (p = (A, Obj.cells (Vr) 60 (0, 0))) ∨ (b 14 = true ∧ p = (B, Obj.cells (if b 16 = true then Vq else Zq) 30 (0, 0))) := by
   intro p hp
   rcases bx_cases hp with ⟨h, e⟩ | ⟨h, e⟩
   ·exact .inl e
   ·exact .inr ⟨h, e⟩
  have hw3 := hwr (bxX := A) (w' := w.setRow A (Vr)) (bs' := bxs Zr Zq (fun j => if j = 15 then true else b j) Vr Vq A B) _ hw (bxA p13) hWr (fun p hp => by
   rcases hbx p hp with e | ⟨h, e⟩
   ·rw [e]; exact ⟨hnew, hh.2⟩
   ·have hy := ((h2 Vr Vq).has hw) _ (bxB h)
    rw [e]
    exact ⟨(hWr.other _ (Ne.symm (hAB p13 h))).trans hy.1, hy.2⟩) (fun p hp => by
   rcases hbx p hp with e | ⟨h, e⟩
   ·left; rw [e]
   ·right; rw [e]; exact bxB h)
  exact ⟨hF.put0 _, V, Vr, Vq, A, B, fun hb' => c0 hb', fun hb' => c1 hb', fun hb' => c2 hb', fun hb' => c3 hb', fun hb' => c4 hb', fun hb' => c5 hb', fun hb' => c6 hb', fun hb' => c7 hb', fun hb' => c8 hb', fun hb' => c9 hb', fun hb' => c10 hb', fun hb' => c11 hb', fun hb' => c12 hb', fun hb' => c13 hb', fun hb' => c14 hb', fun hb' => k8_7 hb', fun hb' => k9_8 hb', fun hb' => k10_9 hb', fun hb' => k11_10 hb', fun hb' => k12_10 hb', fun _ => p13, fun _ => p11, fun hb' => k16_14 hb', fun hb' => k16_12 hb', hAB, (by rw [phs_e2 wC R1 R2 (b := fun j => if j = 15 then true else b j) p9]; exact hw3)⟩
 ·obtain ⟨hop, hd, hg, hp⟩ := s16.get ho he
  have p14 := hp 14 (by simp)
  have p12 := hp 12 (by simp)
  refine wpOp_plain ho hg ?_
  have n16 : ¬ b 16 = true := by simp [hb]
  have p10 : b 10 = true := k12_10 p12
  have p9 : b 9 = true := k10_9 p10
  have hh := (hg0.has hw) _ (bxB p14)
  rw [if_neg n16] at hh
  unfold Phs at hw
  rw [if_pos p9] at hw
  obtain ⟨hs4, hs11, ho4, ho11⟩ := hsz2 hw
  have hrow : (Zq.toList.take 0 ++ (Vq).toList ++ Zq.toList.drop (0 + (Vq).size)).toArray = Vq := row_same (by rw [hs11, hZq]; rfl)
  have hst := run_storeAt_row (P := Tryz.prog) (ty := 30) (off := 0) (vals := Vq) hh.1 (by rw [hs11]; kernel_rfl) (by rw [hs11, hZq]; exact Nat.le_refl 11) ho11
  rw [hrow] at hst
  have hnew := setRow_heap w B _ (Vq) _ _ hh.1
  have hWr := Wrote.setRow B w (Vq)
  refine op_store (w' := w.setRow B (Vq)) hop (by rw [c14 p14, c12 p12]; exact hst) ?_
  rw [hd]
  have hbx : ∀ p ∈ bxs Zr Zq (fun j => if j = 16 then true else b j) Vr Vq A B, (p = (B, Obj.cells (Vq) 30 (0, 0))) ∨ (b 13 = true ∧ p = (A, Obj.cells (if b 15 = true then Vr else Zr) 60 (0, 0))) := by
   intro p hp
   rcases bx_cases hp with ⟨h, e⟩ | ⟨h, e⟩
   ·exact .inr ⟨h, e⟩
   ·exact .inl e
  have hw3 := hwr (bxX := B) (w' := w.setRow B (Vq)) (bs' := bxs Zr Zq (fun j => if j = 16 then true else b j) Vr Vq A B) _ hw (bxB p14) hWr (fun p hp => by
   rcases hbx p hp with e | ⟨h, e⟩
   ·rw [e]; exact ⟨hnew, hh.2⟩
   ·have hy := ((h2 Vr Vq).has hw) _ (bxA h)
    rw [e]
    exact ⟨(hWr.other _ (hAB h p14)).trans hy.1, hy.2⟩) (fun p hp => by
   rcases hbx p hp with e | ⟨h, e⟩
   ·left; rw [e]
   ·right; rw [e]; exact bxA h)
  exact ⟨hF.put0 _, V, Vr, Vq, A, B, fun hb' => c0 hb', fun hb' => c1 hb', fun hb' => c2 hb', fun hb' => c3 hb', fun hb' => c4 hb', fun hb' => c5 hb', fun hb' => c6 hb', fun hb' => c7 hb', fun hb' => c8 hb', fun hb' => c9 hb', fun hb' => c10 hb', fun hb' => c11 hb', fun hb' => c12 hb', fun hb' => c13 hb', fun hb' => c14 hb', fun hb' => k8_7 hb', fun hb' => k9_8 hb', fun hb' => k10_9 hb', fun hb' => k11_10 hb', fun hb' => k12_10 hb', fun hb' => k15_13 hb', fun hb' => k15_11 hb', fun _ => p14, fun _ => p12, hAB, (by rw [phs_e2 wC R1 R2 (b := fun j => if j = 16 then true else b j) p9]; exact hw3)⟩
end Go.Proofs.YtiajboiobjfcoaaGreatDoor
