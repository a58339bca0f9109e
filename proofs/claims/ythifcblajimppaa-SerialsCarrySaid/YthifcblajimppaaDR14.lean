/-
  What is proved here: what Tick's region 14 does, whatever the order of its operations.
  Conditions: what its calls return.
-/
import Derived.Test.YthifcblajimppaaDReg
import Derived.Test.YthifcblajimppaaQCtx
namespace Go.Proofs.Ythifcblajimppaa
open Go.Proofs Go.RowKit
def J14 (P O : Nat) (fr mx : Int) (cfg : Array Value) (a0 : Act) (w0 : World) (b : Nat → Bool) (a : Act) (w : World) : Prop :=
 Fr [95, 96, 97, 98, 99, 100, 101, 102, 103, 104, 105, 106, 107, 108] a0 a ∧ (b 0 = true → a.eval (.tmp 95) = .bool true) ∧ (b 1 = true → a.eval (.tmp 96) = .bool true) ∧ (b 2 = true → a.eval (.tmp 97) = .pointer (some ⟨P, 0, none⟩)) ∧ (b 3 = true → a.eval (.tmp 98) = .pointer (some ⟨P, 0, none⟩)) ∧ (b 4 = true → a.eval (.tmp 99) = .pointer (some ⟨P, 0, none⟩)) ∧ (b 5 = true → a.eval (.tmp 100) = .int .i64 fr) ∧ (b 6 = true → a.eval (.tmp 101) = .pointer (some ⟨P, 0, none⟩)) ∧ (b 7 = true → a.eval (.tmp 102) = .pointer (some ⟨P, 0, none⟩)) ∧ (b 8 = true → a.eval (.tmp 103) = .pointer (some ⟨P, 13, none⟩)) ∧ (b 9 = true → a.eval (.tmp 104) = .pointer (some ⟨O, 0, none⟩)) ∧ (b 10 = true → a.eval (.tmp 105) = .agg cfg) ∧ (b 11 = true → a.eval (.tmp 106) = .int .i64 mx) ∧ (b 12 = true → a.eval (.tmp 107) = .bool (decide (mx ≤ fr))) ∧ (b 13 = true → a.eval (.tmp 108) = .bool (decide (mx ≤ fr))) ∧ Below w0.heap.size w0 w
set_option maxHeartbeats 4000000 in
set_option maxRecDepth 1000000 in
theorem r14 {ops : Array Oper} {Q : Exit → Act → World → Prop} {id : Nat} {a0 : Act} {w0 : World} {P O : Nat} (fr mx : Int) (n0 k0 : Int) (b0 : Bool)
  (hback : edgesBack ops = true) (hn : ops.size = 14)
  (s0 : Sp ops 0 (.move (.tmp 2)) (some 95) [])
  (s1 : Sp ops 1 (.move (.tmp 95)) (some 96) [0])
  (s2 : SpW ops 2 1 96 (.move (.tmp 0)) (some 97) [])
  (s3 : SpW ops 3 1 96 (.nilCheck (.tmp 97)) (some 98) [2])
  (s4 : SpW ops 4 1 96 (.fieldAddr 67 (.tmp 98) 0) (some 99) [3])
  (s5 : SpW ops 5 1 96 (.call { callee := .value (.func 21), args := #[.tmp 99], argTypes := #[65] }) (some 100) [4])
  (s6 : SpW ops 6 1 96 (.move (.tmp 0)) (some 101) [])
  (s7 : SpW ops 7 1 96 (.nilCheck (.tmp 101)) (some 102) [6])
  (s8 : SpW ops 8 1 96 (.fieldAddr 67 (.tmp 102) 10) (some 103) [7])
  (s9 : SpW ops 9 1 96 (.load 50 (.tmp 103)) (some 104) [8])
  (s10 : SpW ops 10 1 96 (.call { callee := .value (.func 22), args := #[.tmp 104], argTypes := #[50] }) (some 105) [9])
  (s11 : SpW ops 11 1 96 (.field 55 (.tmp 105) 3) (some 106) [10])
  (s12 : SpW ops 12 1 96 (.binOp .geq 3 (.tmp 100) (.tmp 106) 3) (some 107) [5, 11])
  (s13 : Sp ops 13 (.pick (.tmp 96) (.tmp 107) (.const (.bool false))) (some 108) [1, 12])
  (hsz0 : a0.tmps.size = 212) (e0 : a0.eval (.tmp 0) = .pointer (some ⟨P, 0, none⟩)) (e2 : a0.eval (.tmp 2) = .bool true)
  (hc : ∀ w, Below w0.heap.size w0 w → w.cell? ⟨P, 13, none⟩ = some (.pointer (some ⟨O, 0, none⟩)))
  (hfree : ∀ w, Below w0.heap.size w0 w → Calls Try.prog 21 #[.pointer (some ⟨P, 0, none⟩)] w fun e w' => e = .returned (.int .i64 fr) ∧ Below w.heap.size w w')
  (hcfg : ∀ w, Below w0.heap.size w0 w → Calls Try.prog 22 #[.pointer (some ⟨O, 0, none⟩)] w fun e w' => e = .returned (.agg #[.int .u8 n0, .bool b0, .int .u8 k0, .int .i64 mx]) ∧ Below w.heap.size w w')
  (hQ : ∀ (a : Act) (w : World), Fr [95, 96, 97, 98, 99, 100, 101, 102, 103, 104, 105, 106, 107, 108] a0 a → a.eval (.tmp 108) = .bool (decide (mx ≤ fr)) → Below w0.heap.size w0 w → Q .normal a w) :
  (Code.region id ops true).wp Try.prog Q a0 w0 := by
 have hf4 : ∀ w : World, (Instr.fieldAt 67 (Value.pointer (some ⟨P, 0, none⟩)) 0).run Try.prog w = .ok (.pointer (some ⟨P, 0, none⟩)) w := by
  intro w
  simp [go_sem]
 have hf8 : ∀ w : World, (Instr.fieldAt 67 (Value.pointer (some ⟨P, 0, none⟩)) 10).run Try.prog w = .ok (.pointer (some ⟨P, 13, none⟩)) w := by
  intro w
  simp [go_sem]
 have hld : ∀ w : World, Below w0.heap.size w0 w → (Instr.loadAt 50 (Value.pointer (some ⟨P, 13, none⟩))).run Try.prog w = .ok (.pointer (some ⟨O, 0, none⟩)) w := by
  intro w h
  have k := hc w h
  simp [go_sem, k]
 obtain ⟨cfg, hcf⟩ : ∃ cfg : Array Value, #[.int .u8 n0, .bool b0, .int .u8 k0, .int .i64 mx] = cfg := ⟨_, rfl⟩
 rw [hcf] at hcfg
 refine region_inv (by kernel_rfl) hback (J14 P O fr mx cfg a0 w0) ?_ ?_ ?_
 ·exact ⟨Fr.refl _ _, (fun h => nomatch h), (fun h => nomatch h), (fun h => nomatch h), (fun h => nomatch h), (fun h => nomatch h), (fun h => nomatch h), (fun h => nomatch h), (fun h => nomatch h), (fun h => nomatch h), (fun h => nomatch h), (fun h => nomatch h), (fun h => nomatch h), (fun h => nomatch h), (fun h => nomatch h), (Below.refl _ _).drew⟩
 rotate_left
 ·rintro b a w hall ⟨hF, c0, c1, c2, c3, c4, c5, c6, c7, c8, c9, c10, c11, c12, c13, hw⟩
  rw [hn] at hall
  exact hQ a w hF (c13 (hall 13 (by decide))) hw
 rintro b a w i o ho hb he ⟨hF, c0, c1, c2, c3, c4, c5, c6, c7, c8, c9, c10, c11, c12, c13, hw⟩
 have hi : i < 14 := by rw [← hn]; exact (Array.getElem?_eq_some_iff.1 ho).1
 have hsz : a.tmps.size = 212 := hF.size.trans hsz0
 obtain rfl | rfl | rfl | rfl | rfl | rfl | rfl | rfl | rfl | rfl | rfl | rfl | rfl | rfl : i = 0 ∨ i = 1 ∨ i = 2 ∨ i = 3 ∨ i = 4 ∨ i = 5 ∨ i = 6 ∨ i = 7 ∨ i = 8 ∨ i = 9 ∨ i = 10 ∨ i = 11 ∨ i = 12 ∨ i = 13 := by omega
 ·obtain ⟨hop, hd, hg, hp⟩ := s0.get ho he
  refine wpOp_plain ho hg ?_
  refine op_move (.inl hop) ?_
  rw [hd]
  exact ⟨hF.put (by decide) _, fun _ => (eval_same (by omega)).trans ((hF.eval (by decide)).trans e2), fun hb' => (eval_other (by decide)).trans (c1 hb'), fun hb' => (eval_other (by decide)).trans (c2 hb'), fun hb' => (eval_other (by decide)).trans (c3 hb'), fun hb' => (eval_other (by decide)).trans (c4 hb'), fun hb' => (eval_other (by decide)).trans (c5 hb'), fun hb' => (eval_other (by decide)).trans (c6 hb'), fun hb' => (eval_other (by decide)).trans (c7 hb'), fun hb' => (eval_other (by decide)).trans (c8 hb'), fun hb' => (eval_other (by decide)).trans (c9 hb'), fun hb' => (eval_other (by decide)).trans (c10 hb'), fun hb' => (eval_other (by decide)).trans (c11 hb'), fun hb' => (eval_other (by decide)).trans (c12 hb'), fun hb' => (eval_other (by decide)).trans (c13 hb'), hw⟩
 ·obtain ⟨hop, hd, hg, hp⟩ := s1.get ho he
  have p0 := hp 0 (by simp)
  refine wpOp_plain ho hg ?_
  refine op_move (.inl hop) ?_
  rw [hd]
  exact ⟨hF.put (by decide) _, fun hb' => (eval_other (by decide)).trans (c0 hb'), fun _ => (eval_same (by omega)).trans (c0 p0), fun hb' => (eval_other (by decide)).trans (c2 hb'), fun hb' => (eval_other (by decide)).trans (c3 hb'), fun hb' => (eval_other (by decide)).trans (c4 hb'), fun hb' => (eval_other (by decide)).trans (c5 hb'), fun hb' => (eval_other (by decide)).trans (c6 hb'), fun hb' => (eval_other (by decide)).trans (c7 hb'), fun hb' => (eval_other (by decide)).trans (c8 hb'), fun hb' => (eval_other (by decide)).trans (c9 hb'), fun hb' => (eval_other (by decide)).trans (c10 hb'), fun hb' => (eval_other (by decide)).trans (c11 hb'), fun hb' => (eval_other (by decide)).trans (c12 hb'), fun hb' => (eval_other (by decide)).trans (c13 hb'), hw⟩
 ·obtain ⟨hop, hd, hg, hs, p1, hp⟩ := s2.get ho he
  refine wpOp_want ho hg hs (by omega) (c1 p1) ?_
  refine op_move (.inl hop) ?_
  rw [hd]
  exact ⟨hF.put (by decide) _, fun hb' => (eval_other (by decide)).trans (c0 hb'), fun hb' => (eval_other (by decide)).trans (c1 hb'), fun _ => (eval_same (by omega)).trans ((hF.eval (by decide)).trans e0), fun hb' => (eval_other (by decide)).trans (c3 hb'), fun hb' => (eval_other (by decide)).trans (c4 hb'), fun hb' => (eval_other (by decide)).trans (c5 hb'), fun hb' => (eval_other (by decide)).trans (c6 hb'), fun hb' => (eval_other (by decide)).trans (c7 hb'), fun hb' => (eval_other (by decide)).trans (c8 hb'), fun hb' => (eval_other (by decide)).trans (c9 hb'), fun hb' => (eval_other (by decide)).trans (c10 hb'), fun hb' => (eval_other (by decide)).trans (c11 hb'), fun hb' => (eval_other (by decide)).trans (c12 hb'), fun hb' => (eval_other (by decide)).trans (c13 hb'), hw⟩
 ·obtain ⟨hop, hd, hg, hs, p1, hp⟩ := s3.get ho he
  have p2 := hp 2 (by simp)
  refine wpOp_want ho hg hs (by omega) (c1 p1) ?_
  refine op_any (n := .value (.pointer (some ⟨P, 0, none⟩))) (w' := w) (by unfold execOp; simp only [hop]; rw [c2 p2]; simp [go_sem]) ?_
  rw [Oper.upon_value, hd]
  exact ⟨hF.put (by decide) _, fun hb' => (eval_other (by decide)).trans (c0 hb'), fun hb' => (eval_other (by decide)).trans (c1 hb'), fun hb' => (eval_other (by decide)).trans (c2 hb'), fun _ => (eval_same (by omega)).trans (rfl), fun hb' => (eval_other (by decide)).trans (c4 hb'), fun hb' => (eval_other (by decide)).trans (c5 hb'), fun hb' => (eval_other (by decide)).trans (c6 hb'), fun hb' => (eval_other (by decide)).trans (c7 hb'), fun hb' => (eval_other (by decide)).trans (c8 hb'), fun hb' => (eval_other (by decide)).trans (c9 hb'), fun hb' => (eval_other (by decide)).trans (c10 hb'), fun hb' => (eval_other (by decide)).trans (c11 hb'), fun hb' => (eval_other (by decide)).trans (c12 hb'), fun hb' => (eval_other (by decide)).trans (c13 hb'), hw⟩
 ·obtain ⟨hop, hd, hg, hs, p1, hp⟩ := s4.get ho he
  have p3 := hp 3 (by simp)
  refine wpOp_want ho hg hs (by omega) (c1 p1) ?_
  refine op_fieldS hop (by rw [c3 p3]; exact hf4 w) ?_
  rw [hd]
  exact ⟨hF.put (by decide) _, fun hb' => (eval_other (by decide)).trans (c0 hb'), fun hb' => (eval_other (by decide)).trans (c1 hb'), fun hb' => (eval_other (by decide)).trans (c2 hb'), fun hb' => (eval_other (by decide)).trans (c3 hb'), fun _ => (eval_same (by omega)).trans (rfl), fun hb' => (eval_other (by decide)).trans (c5 hb'), fun hb' => (eval_other (by decide)).trans (c6 hb'), fun hb' => (eval_other (by decide)).trans (c7 hb'), fun hb' => (eval_other (by decide)).trans (c8 hb'), fun hb' => (eval_other (by decide)).trans (c9 hb'), fun hb' => (eval_other (by decide)).trans (c10 hb'), fun hb' => (eval_other (by decide)).trans (c11 hb'), fun hb' => (eval_other (by decide)).trans (c12 hb'), fun hb' => (eval_other (by decide)).trans (c13 hb'), hw⟩
 ·obtain ⟨hop, hd, hg, hs, p1, hp⟩ := s5.get ho he
  have p4 := hp 4 (by simp)
  refine wpOp_want ho hg hs (by omega) (c1 p1) ?_
  refine op_any (n := .enter 21 #[.pointer (some ⟨P, 0, none⟩)]) (w' := w) (by rw [show execOp a.eval o = callFunc 21 (#[] ++ (#[.tmp 99] : Array Operand).map a.eval ++ #[]) from by unfold execOp; rw [hop]; rfl, Go.Sy.run_callFunc (Go.Sy.callable plain (by kernel_rfl))]; simp [c4 p4]) ?_
  rw [Oper.upon_enter]
  refine (hfree w hw).mono ?_
  rintro e' w' ⟨rfl, h1⟩
  dsimp only
  rw [hd]
  exact ⟨hF.put (by decide) _, fun hb' => (eval_other (by decide)).trans (c0 hb'), fun hb' => (eval_other (by decide)).trans (c1 hb'), fun hb' => (eval_other (by decide)).trans (c2 hb'), fun hb' => (eval_other (by decide)).trans (c3 hb'), fun hb' => (eval_other (by decide)).trans (c4 hb'), fun _ => (eval_same (by omega)).trans (rfl), fun hb' => (eval_other (by decide)).trans (c6 hb'), fun hb' => (eval_other (by decide)).trans (c7 hb'), fun hb' => (eval_other (by decide)).trans (c8 hb'), fun hb' => (eval_other (by decide)).trans (c9 hb'), fun hb' => (eval_other (by decide)).trans (c10 hb'), fun hb' => (eval_other (by decide)).trans (c11 hb'), fun hb' => (eval_other (by decide)).trans (c12 hb'), fun hb' => (eval_other (by decide)).trans (c13 hb'), hw.trans (h1.mono hw.size)⟩
 ·obtain ⟨hop, hd, hg, hs, p1, hp⟩ := s6.get ho he
  refine wpOp_want ho hg hs (by omega) (c1 p1) ?_
  refine op_move (.inl hop) ?_
  rw [hd]
  exact ⟨hF.put (by decide) _, fun hb' => (eval_other (by decide)).trans (c0 hb'), fun hb' => (eval_other (by decide)).trans (c1 hb'), fun hb' => (eval_other (by decide)).trans (c2 hb'), fun hb' => (eval_other (by decide)).trans (c3 hb'), fun hb' => (eval_other (by decide)).trans (c4 hb'), fun hb' => (eval_other (by decide)).trans (c5 hb'), fun _ => (eval_same (by omega)).trans ((hF.eval (by decide)).trans e0), fun hb' => (eval_other (by decide)).trans (c7 hb'), fun hb' => (eval_other (by decide)).trans (c8 hb'), fun hb' => (eval_other (by decide)).trans (c9 hb'), fun hb' => (eval_other (by decide)).trans (c10 hb'), fun hb' => (eval_other (by decide)).trans (c11 hb'), fun hb' => (eval_other (by decide)).trans (c12 hb'), fun hb' => (eval_other (by decide)).trans (c13 hb'), hw⟩
 ·obtain ⟨hop, hd, hg, hs, p1, hp⟩ := s7.get ho he
  have p6 := hp 6 (by simp)
  refine wpOp_want ho hg hs (by omega) (c1 p1) ?_
  refine op_any (n := .value (.pointer (some ⟨P, 0, none⟩))) (w' := w) (by unfold execOp; simp only [hop]; rw [c6 p6]; simp [go_sem]) ?_
  rw [Oper.upon_value, hd]
  exact ⟨hF.put (by decide) _, fun hb' => (eval_other (by decide)).trans (c0 hb'), fun hb' => (eval_other (by decide)).trans (c1 hb'), fun hb' => (eval_other (by decide)).trans (c2 hb'), fun hb' => (eval_other (by decide)).trans (c3 hb'), fun hb' => (eval_other (by decide)).trans (c4 hb'), fun hb' => (eval_other (by decide)).trans (c5 hb'), fun hb' => (eval_other (by decide)).trans (c6 hb'), fun _ => (eval_same (by omega)).trans (rfl), fun hb' => (eval_other (by decide)).trans (c8 hb'), fun hb' => (eval_other (by decide)).trans (c9 hb'), fun hb' => (eval_other (by decide)).trans (c10 hb'), fun hb' => (eval_other (by decide)).trans (c11 hb'), fun hb' => (eval_other (by decide)).trans (c12 hb'), fun hb' => (eval_other (by decide)).trans (c13 hb'), hw⟩
 ·obtain ⟨hop, hd, hg, hs, p1, hp⟩ := s8.get ho he
  have p7 := hp 7 (by simp)
  refine wpOp_want ho hg hs (by omega) (c1 p1) ?_
  refine op_fieldS hop (by rw [c7 p7]; exact hf8 w) ?_
  rw [hd]
  exact ⟨hF.put (by decide) _, fun hb' => (eval_other (by decide)).trans (c0 hb'), fun hb' => (eval_other (by decide)).trans (c1 hb'), fun hb' => (eval_other (by decide)).trans (c2 hb'), fun hb' => (eval_other (by decide)).trans (c3 hb'), fun hb' => (eval_other (by decide)).trans (c4 hb'), fun hb' => (eval_other (by decide)).trans (c5 hb'), fun hb' => (eval_other (by decide)).trans (c6 hb'), fun hb' => (eval_other (by decide)).trans (c7 hb'), fun _ => (eval_same (by omega)).trans (rfl), fun hb' => (eval_other (by decide)).trans (c9 hb'), fun hb' => (eval_other (by decide)).trans (c10 hb'), fun hb' => (eval_other (by decide)).trans (c11 hb'), fun hb' => (eval_other (by decide)).trans (c12 hb'), fun hb' => (eval_other (by decide)).trans (c13 hb'), hw⟩
 ·obtain ⟨hop, hd, hg, hs, p1, hp⟩ := s9.get ho he
  have p8 := hp 8 (by simp)
  refine wpOp_want ho hg hs (by omega) (c1 p1) ?_
  refine op_load hop (by rw [c8 p8]; exact hld w hw) ?_
  rw [hd]
  exact ⟨hF.put (by decide) _, fun hb' => (eval_other (by decide)).trans (c0 hb'), fun hb' => (eval_other (by decide)).trans (c1 hb'), fun hb' => (eval_other (by decide)).trans (c2 hb'), fun hb' => (eval_other (by decide)).trans (c3 hb'), fun hb' => (eval_other (by decide)).trans (c4 hb'), fun hb' => (eval_other (by decide)).trans (c5 hb'), fun hb' => (eval_other (by decide)).trans (c6 hb'), fun hb' => (eval_other (by decide)).trans (c7 hb'), fun hb' => (eval_other (by decide)).trans (c8 hb'), fun _ => (eval_same (by omega)).trans (rfl), fun hb' => (eval_other (by decide)).trans (c10 hb'), fun hb' => (eval_other (by decide)).trans (c11 hb'), fun hb' => (eval_other (by decide)).trans (c12 hb'), fun hb' => (eval_other (by decide)).trans (c13 hb'), hw⟩
 ·obtain ⟨hop, hd, hg, hs, p1, hp⟩ := s10.get ho he
  have p9 := hp 9 (by simp)
  refine wpOp_want ho hg hs (by omega) (c1 p1) ?_
  refine op_any (n := .enter 22 #[.pointer (some ⟨O, 0, none⟩)]) (w' := w) (by rw [show execOp a.eval o = callFunc 22 (#[] ++ (#[.tmp 104] : Array Operand).map a.eval ++ #[]) from by unfold execOp; rw [hop]; rfl, Go.Sy.run_callFunc (Go.Sy.callable plain (by kernel_rfl))]; simp [c9 p9]) ?_
  rw [Oper.upon_enter]
  refine (hcfg w hw).mono ?_
  rintro e' w' ⟨rfl, h1⟩
  dsimp only
  rw [hd]
  exact ⟨hF.put (by decide) _, fun hb' => (eval_other (by decide)).trans (c0 hb'), fun hb' => (eval_other (by decide)).trans (c1 hb'), fun hb' => (eval_other (by decide)).trans (c2 hb'), fun hb' => (eval_other (by decide)).trans (c3 hb'), fun hb' => (eval_other (by decide)).trans (c4 hb'), fun hb' => (eval_other (by decide)).trans (c5 hb'), fun hb' => (eval_other (by decide)).trans (c6 hb'), fun hb' => (eval_other (by decide)).trans (c7 hb'), fun hb' => (eval_other (by decide)).trans (c8 hb'), fun hb' => (eval_other (by decide)).trans (c9 hb'), fun _ => (eval_same (by omega)).trans (rfl), fun hb' => (eval_other (by decide)).trans (c11 hb'), fun hb' => (eval_other (by decide)).trans (c12 hb'), fun hb' => (eval_other (by decide)).trans (c13 hb'), hw.trans (h1.mono hw.size)⟩
 ·obtain ⟨hop, hd, hg, hs, p1, hp⟩ := s11.get ho he
  have p10 := hp 10 (by simp)
  refine wpOp_want ho hg hs (by omega) (c1 p1) ?_
  refine op_any (n := .value (.int .i64 mx)) (w' := w) (by unfold execOp; simp only [hop]; rw [c10 p10, ← hcf]; rfl) ?_
  rw [Oper.upon_value, hd]
  exact ⟨hF.put (by decide) _, fun hb' => (eval_other (by decide)).trans (c0 hb'), fun hb' => (eval_other (by decide)).trans (c1 hb'), fun hb' => (eval_other (by decide)).trans (c2 hb'), fun hb' => (eval_other (by decide)).trans (c3 hb'), fun hb' => (eval_other (by decide)).trans (c4 hb'), fun hb' => (eval_other (by decide)).trans (c5 hb'), fun hb' => (eval_other (by decide)).trans (c6 hb'), fun hb' => (eval_other (by decide)).trans (c7 hb'), fun hb' => (eval_other (by decide)).trans (c8 hb'), fun hb' => (eval_other (by decide)).trans (c9 hb'), fun hb' => (eval_other (by decide)).trans (c10 hb'), fun _ => (eval_same (by omega)).trans (rfl), fun hb' => (eval_other (by decide)).trans (c12 hb'), fun hb' => (eval_other (by decide)).trans (c13 hb'), hw⟩
 ·obtain ⟨hop, hd, hg, hs, p1, hp⟩ := s12.get ho he
  have p5 := hp 5 (by simp)
  have p11 := hp 11 (by simp)
  refine wpOp_want ho hg hs (by omega) (c1 p1) ?_
  refine op_any (n := .value (.bool (decide (mx ≤ fr)))) (w' := w) (by unfold execOp; simp only [hop]; rw [c5 p5, c11 p11]; simp [go_sem]) ?_
  rw [Oper.upon_value, hd]
  exact ⟨hF.put (by decide) _, fun hb' => (eval_other (by decide)).trans (c0 hb'), fun hb' => (eval_other (by decide)).trans (c1 hb'), fun hb' => (eval_other (by decide)).trans (c2 hb'), fun hb' => (eval_other (by decide)).trans (c3 hb'), fun hb' => (eval_other (by decide)).trans (c4 hb'), fun hb' => (eval_other (by decide)).trans (c5 hb'), fun hb' => (eval_other (by decide)).trans (c6 hb'), fun hb' => (eval_other (by decide)).trans (c7 hb'), fun hb' => (eval_other (by decide)).trans (c8 hb'), fun hb' => (eval_other (by decide)).trans (c9 hb'), fun hb' => (eval_other (by decide)).trans (c10 hb'), fun hb' => (eval_other (by decide)).trans (c11 hb'), fun _ => (eval_same (by omega)).trans (rfl), fun hb' => (eval_other (by decide)).trans (c13 hb'), hw⟩
 ·obtain ⟨hop, hd, hg, hp⟩ := s13.get ho he
  have p1 := hp 1 (by simp)
  have p12 := hp 12 (by simp)
  refine wpOp_plain ho hg ?_
  refine op_any (n := .value (.bool (decide (mx ≤ fr)))) (w' := w) (by unfold execOp; simp only [hop]; rw [c1 p1, c12 p12]; simp [go_sem]) ?_
  rw [Oper.upon_value, hd]
  exact ⟨hF.put (by decide) _, fun hb' => (eval_other (by decide)).trans (c0 hb'), fun hb' => (eval_other (by decide)).trans (c1 hb'), fun hb' => (eval_other (by decide)).trans (c2 hb'), fun hb' => (eval_other (by decide)).trans (c3 hb'), fun hb' => (eval_other (by decide)).trans (c4 hb'), fun hb' => (eval_other (by decide)).trans (c5 hb'), fun hb' => (eval_other (by decide)).trans (c6 hb'), fun hb' => (eval_other (by decide)).trans (c7 hb'), fun hb' => (eval_other (by decide)).trans (c8 hb'), fun hb' => (eval_other (by decide)).trans (c9 hb'), fun hb' => (eval_other (by decide)).trans (c10 hb'), fun hb' => (eval_other (by decide)).trans (c11 hb'), fun hb' => (eval_other (by decide)).trans (c12 hb'), fun _ => (eval_same (by omega)).trans (rfl), hw⟩
end Go.Proofs.Ythifcblajimppaa
