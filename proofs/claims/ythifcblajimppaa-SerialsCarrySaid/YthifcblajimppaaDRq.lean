/-
  What is proved here: what Request's region 3 does, whatever the order of its operations.
  Conditions: none.
-/
import Derived.Test.YthifcblajimppaaDReady
namespace Go.Proofs.Ythifcblajimppaa
open Go.Proofs Go.RowKit
theorem mk_mapR (w : World) : (Instr.makeMap 102 none).run Try.prog w = .ok (.map (some w.heap.size)) (w.alloc (.map #[] 0)) := by
 simp [Instr.makeMap]
def kq (i : Nat) : Value := if i = 4 then rkV 33 32 else if i = 8 then rkV 161 33 else if i = 12 then rkV 33 34 else rkV 33 35
def fq (P i : Nat) : Value := if i = 4 then rfV 34 P else if i = 8 then rfV 35 P else if i = 12 then rfV 36 P else rfV 37 P
def Four (i : Nat) : Prop := i = 4 ∨ i = 8 ∨ i = 12 ∨ i = 16
theorem kq_key {i : Nat} (h : Four i) : ∃ l, keyOf Try.prog 101 (kq i) = some l := by
 rcases h with rfl | rfl | rfl | rfl
 ·exact rk1
 ·exact rk2
 ·exact rk3
 ·exact rk4
theorem kq_ne {i j : Nat} (h : Four i) (h' : Four j) (hne : i ≠ j) : kq i ≠ kq j := by
 rcases h with rfl | rfl | rfl | rfl <;> rcases h' with rfl | rfl | rfl | rfl <;> first | (exact absurd rfl hne) | (exact rk_ne (by omega))
def MapI (P m : Nat) (b : Nat → Bool) (w : World) : Prop :=
 ∃ es clk, w.heap[m]? = some (.map es clk) ∧ (∀ x ∈ es.toList, ∃ i, Four i ∧ b i = true ∧ x.key = kq i ∧ x.val = fq P i) ∧ (b 12 = true → ∃ x ∈ es.toList, x.key = kq 12)
theorem MapI.put {P m i : Nat} {b : Nat → Bool} {w : World} (h : MapI P m b w) (hi : Four i) (hb : b i = false) :
  ∃ w', (Instr.mapUpdate 102 (.map (some m)) (kq i) (fq P i)).run Try.prog w = .ok () w' ∧ Wrote m w w' ∧ MapI P m (fun j => if j = i then true else b j) w' := by
 obtain ⟨es, clk, h1, h2, h3⟩ := h
 obtain ⟨l, hk⟩ := kq_key hi
 obtain ⟨w', r, W, h4⟩ := map_put (e := 63) law_req Try.underlying102 h1 (fq P i) hk (fun x hx => by
  obtain ⟨j, hj, hbj, e, _⟩ := h2 x hx
  exact ⟨by rw [e]; exact kq_key hj, by rw [e]; exact kq_ne hj hi (fun e => by rw [e, hb] at hbj; cases hbj)⟩)
 refine ⟨w', r, W, es.push ⟨kq i, fq P i, clk⟩, clk + 1, h4, fun x hx => ?_, fun h12 => ?_⟩
 ·rw [Array.toList_push] at hx
  rcases List.mem_append.1 hx with hx | hx
  ·obtain ⟨j, hj, hbj, e⟩ := h2 x hx
   refine ⟨j, hj, ?_, e⟩
   show (if j = i then true else b j) = true
   split
   ·rfl
   ·exact hbj
  ·obtain rfl := List.mem_singleton.1 hx
   exact ⟨i, hi, if_pos rfl, rfl, rfl⟩
 ·rw [Array.toList_push]
  by_cases he : 12 = i
  ·subst he
   exact ⟨_, List.mem_append_right _ (List.mem_singleton.2 rfl), rfl⟩
  ·have h12 : b 12 = true := by have h12 : (if 12 = i then true else b 12) = true := h12; rwa [if_neg he] at h12
   obtain ⟨x, hx, e⟩ := h3 h12
   exact ⟨x, List.mem_append_left _ hx, e⟩
theorem MapI.other {P m i : Nat} {b : Nat → Bool} {w : World} (h : MapI P m b w) (hi : ¬ Four i) : MapI P m (fun j => if j = i then true else b j) w := by
 obtain ⟨es, clk, h1, h2, h3⟩ := h
 refine ⟨es, clk, h1, fun x hx => ?_, fun h12 => h3 ?_⟩
 ·obtain ⟨j, hj, hbj, e⟩ := h2 x hx
  exact ⟨j, hj, by show (if j = i then true else b j) = true; rw [if_neg (fun e' : j = i => hi (e' ▸ hj))]; exact hbj, e⟩
 ·have h12 : (if 12 = i then true else b 12) = true := h12
  rwa [if_neg (fun e' : 12 = i => hi (e' ▸ (.inr (.inr (.inl rfl)) : Four 12)))] at h12
theorem MapI.get {P m : Nat} {b : Nat → Bool} {w : World} (h : MapI P m b w) (hb : b 12 = true) : (Instr.lookup 102 (.map (some m)) (rkV 33 34) false).run Try.prog w = .ok (rfV 36 P) w := by
 obtain ⟨es, clk, h1, h2, h3⟩ := h
 obtain ⟨l3, k3⟩ := rk3
 refine map_get (e := 63) law_req Try.underlying102 h1 k3 (fun x hx => ?_) (h3 hb) (fun x hx hk => ?_)
 ·obtain ⟨j, hj, _, e, _⟩ := h2 x hx
  rw [e]; exact kq_key hj
 ·obtain ⟨j, hj, _, e, e2⟩ := h2 x hx
  by_cases hj12 : j = 12
  ·subst hj12; exact e2
  ·exact absurd (e.symm.trans hk) (kq_ne hj (.inr (.inr (.inl rfl))) hj12)
def WRq (P : Nat) (w0 : World) (b : Nat → Bool) (w : World) : Prop :=
 Below w0.heap.size w0 w ∧ (¬ b 0 = true → w.heap.size = w0.heap.size) ∧ (b 0 = true → MapI P w0.heap.size b w) ∧ (¬ b 0 = true → b 4 = false ∧ b 8 = false ∧ b 12 = false ∧ b 16 = false)
theorem WRq.other {P i : Nat} {w0 w : World} {b : Nat → Bool} (h : WRq P w0 b w) (hi : ¬ Four i) (h0 : i ≠ 0) : WRq P w0 (fun j => if j = i then true else b j) w := by
 obtain ⟨h1, h2, h3, h4⟩ := h
 have e0 : (fun j => if j = i then true else b j) 0 = b 0 := if_neg (fun e => h0 e.symm)
 refine ⟨h1, fun hn => h2 (by rwa [e0] at hn), fun hb => (h3 (by rwa [e0] at hb)).other hi, fun hn => ?_⟩
 have h5 := h4 (by rwa [e0] at hn)
 have hf : ∀ k, Four k → (if k = i then true else b k) = b k := fun k hk => if_neg (fun e' : k = i => hi (e' ▸ hk))
 exact ⟨(hf 4 (.inl rfl)).trans h5.1, (hf 8 (.inr (.inl rfl))).trans h5.2.1, (hf 12 (.inr (.inr (.inl rfl)))).trans h5.2.2.1, (hf 16 (.inr (.inr (.inr rfl)))).trans h5.2.2.2⟩
def Jrq (P : Nat) (a0 : Act) (w0 : World) (b : Nat → Bool) (a : Act) (w : World) : Prop :=
 Fr [21, 22, 23, 24, 25, 26, 27, 28, 29, 30, 31, 32, 33, 34, 8] a0 a ∧ (b 0 = true → a.eval (.tmp 21) = .map (some w0.heap.size)) ∧ (b 1 = true → a.eval (.tmp 22) = rkV 33 32) ∧ (b 2 = true → a.eval (.tmp 23) = .pointer (some ⟨P, 0, none⟩)) ∧ (b 3 = true → a.eval (.tmp 24) = rfV 34 P) ∧ (b 5 = true → a.eval (.tmp 25) = rkV 161 33) ∧ (b 6 = true → a.eval (.tmp 26) = .pointer (some ⟨P, 0, none⟩)) ∧ (b 7 = true → a.eval (.tmp 27) = rfV 35 P) ∧ (b 9 = true → a.eval (.tmp 28) = rkV 33 34) ∧ (b 10 = true → a.eval (.tmp 29) = .pointer (some ⟨P, 0, none⟩)) ∧ (b 11 = true → a.eval (.tmp 30) = rfV 36 P) ∧ (b 13 = true → a.eval (.tmp 31) = rkV 33 35) ∧ (b 14 = true → a.eval (.tmp 32) = .pointer (some ⟨P, 0, none⟩)) ∧ (b 15 = true → a.eval (.tmp 33) = rfV 37 P) ∧ (b 17 = true → a.eval (.tmp 34) = .map (some w0.heap.size)) ∧ (b 18 = true → a.eval (.tmp 8) = .map (some w0.heap.size)) ∧ WRq P w0 b w
set_option maxHeartbeats 4000000 in
set_option maxRecDepth 1000000 in
theorem rq3 {ops : Array Oper} {Q : Exit → Act → World → Prop} {id : Nat} {a0 : Act} {w0 : World} {P : Nat}
  (hback : edgesBack ops = true) (hn : ops.size = 19)
  (s0 : Sp ops 0 (.makeMap 102 none) (some 21) [])
  (s1 : Sp ops 1 (.build 101 #[(0, .const (.int .u8 33)), (1, .const (.int .u8 32))]) (some 22) [])
  (s2 : Sp ops 2 (.move (.tmp 0)) (some 23) [])
  (s3 : Sp ops 3 (.makeFunc (.func 34) #[.tmp 23] #[]) (some 24) [2])
  (s4 : Sp ops 4 (.insert 102 (.tmp 21) (.tmp 22) (.tmp 24)) (none) [0, 1, 3])
  (s5 : Sp ops 5 (.build 101 #[(0, .const (.int .u8 161)), (1, .const (.int .u8 33))]) (some 25) [])
  (s6 : Sp ops 6 (.move (.tmp 0)) (some 26) [])
  (s7 : Sp ops 7 (.makeFunc (.func 35) #[.tmp 26] #[]) (some 27) [6])
  (s8 : Sp ops 8 (.insert 102 (.tmp 21) (.tmp 25) (.tmp 27)) (none) [0, 5, 7])
  (s9 : Sp ops 9 (.build 101 #[(0, .const (.int .u8 33)), (1, .const (.int .u8 34))]) (some 28) [])
  (s10 : Sp ops 10 (.move (.tmp 0)) (some 29) [])
  (s11 : Sp ops 11 (.makeFunc (.func 36) #[.tmp 29] #[]) (some 30) [10])
  (s12 : Sp ops 12 (.insert 102 (.tmp 21) (.tmp 28) (.tmp 30)) (none) [0, 9, 11])
  (s13 : Sp ops 13 (.build 101 #[(0, .const (.int .u8 33)), (1, .const (.int .u8 35))]) (some 31) [])
  (s14 : Sp ops 14 (.move (.tmp 0)) (some 32) [])
  (s15 : Sp ops 15 (.makeFunc (.func 37) #[.tmp 32] #[]) (some 33) [14])
  (s16 : Sp ops 16 (.insert 102 (.tmp 21) (.tmp 31) (.tmp 33)) (none) [0, 13, 15])
  (s17 : Sp ops 17 (.move (.tmp 21)) (some 34) [0])
  (s18 : Sp ops 18 (.assign (.tmp 34)) (some 8) [17])
  (hsz0 : a0.tmps.size = 50) (e0 : a0.eval (.tmp 0) = .pointer (some ⟨P, 0, none⟩))
  (hQ : ∀ (a : Act) (w : World), Fr [21, 22, 23, 24, 25, 26, 27, 28, 29, 30, 31, 32, 33, 34, 8] a0 a → a.eval (.tmp 8) = .map (some w0.heap.size) → Below w0.heap.size w0 w → (Instr.lookup 102 (.map (some w0.heap.size)) (rkV 33 34) false).run Try.prog w = .ok (rfV 36 P) w → Q .normal a w) :
  (Code.region id ops true).wp Try.prog Q a0 w0 := by
 refine region_inv (by kernel_rfl) hback (Jrq P a0 w0) ?_ ?_ ?_
 ·exact ⟨Fr.refl _ _, (fun h => nomatch h), (fun h => nomatch h), (fun h => nomatch h), (fun h => nomatch h), (fun h => nomatch h), (fun h => nomatch h), (fun h => nomatch h), (fun h => nomatch h), (fun h => nomatch h), (fun h => nomatch h), (fun h => nomatch h), (fun h => nomatch h), (fun h => nomatch h), (fun h => nomatch h), (fun h => nomatch h), (Below.refl _ _).drew, fun _ => rfl, (fun h => nomatch h), fun _ => ⟨rfl, rfl, rfl, rfl⟩⟩
 rotate_left
 ·rintro b a w hall ⟨hF, c0, c1, c2, c3, c5, c6, c7, c9, c10, c11, c13, c14, c15, c17, c18, hw⟩
  rw [hn] at hall
  exact hQ a w hF (c18 (hall 18 (by decide))) hw.1 ((hw.2.2.1 (hall 0 (by decide))).get (hall 12 (by decide)))
 rintro b a w i o ho hb he ⟨hF, c0, c1, c2, c3, c5, c6, c7, c9, c10, c11, c13, c14, c15, c17, c18, hw⟩
 have hi : i < 19 := by rw [← hn]; exact (Array.getElem?_eq_some_iff.1 ho).1
 have hsz : a.tmps.size = 50 := hF.size.trans hsz0
 obtain rfl | rfl | rfl | rfl | rfl | rfl | rfl | rfl | rfl | rfl | rfl | rfl | rfl | rfl | rfl | rfl | rfl | rfl | rfl : i = 0 ∨ i = 1 ∨ i = 2 ∨ i = 3 ∨ i = 4 ∨ i = 5 ∨ i = 6 ∨ i = 7 ∨ i = 8 ∨ i = 9 ∨ i = 10 ∨ i = 11 ∨ i = 12 ∨ i = 13 ∨ i = 14 ∨ i = 15 ∨ i = 16 ∨ i = 17 ∨ i = 18 := by omega
 ·obtain ⟨hop, hd, hg, hp⟩ := s0.get ho he
  refine wpOp_plain ho hg ?_
  have hn : ¬ b 0 = true := by simp [hb]
  obtain ⟨h1, h2, h3, h4⟩ := hw
  have hsz := h2 hn
  have h5 := h4 hn
  refine op_any (n := .value (.map (some w.heap.size))) (w' := w.alloc (.map #[] 0)) (by unfold execOp; simp only [hop, Option.map_none, Sem.run_bind, mk_mapR, Result.andThen_ok, Sem.run_pure]) ?_
  rw [Oper.upon_value, hd]
  have hbw : Below w0.heap.size w0 (w.alloc (.map #[] 0)) := h1.trans ((Below.refl _ _).alloc h1.size _)
  have hmm : (w.alloc (.map #[] 0)).heap[w0.heap.size]? = some (.map #[] 0) := by rw [← hsz]; exact heap_alloc_new w _
  exact ⟨hF.put (by decide) _, fun _ => (eval_same (by omega)).trans (by rw [hsz]), fun hb' => (eval_other (by decide)).trans (c1 hb'), fun hb' => (eval_other (by decide)).trans (c2 hb'), fun hb' => (eval_other (by decide)).trans (c3 hb'), fun hb' => (eval_other (by decide)).trans (c5 hb'), fun hb' => (eval_other (by decide)).trans (c6 hb'), fun hb' => (eval_other (by decide)).trans (c7 hb'), fun hb' => (eval_other (by decide)).trans (c9 hb'), fun hb' => (eval_other (by decide)).trans (c10 hb'), fun hb' => (eval_other (by decide)).trans (c11 hb'), fun hb' => (eval_other (by decide)).trans (c13 hb'), fun hb' => (eval_other (by decide)).trans (c14 hb'), fun hb' => (eval_other (by decide)).trans (c15 hb'), fun hb' => (eval_other (by decide)).trans (c17 hb'), fun hb' => (eval_other (by decide)).trans (c18 hb'), ⟨hbw, fun hn' => absurd rfl hn', fun _ => ⟨#[], 0, hmm, (fun x hx => nomatch hx), fun h12 => by have h12 : b 12 = true := h12; rw [h5.2.2.1] at h12; cases h12⟩, fun hn' => absurd rfl hn'⟩⟩
 ·obtain ⟨hop, hd, hg, hp⟩ := s1.get ho he
  refine wpOp_plain ho hg ?_
  refine op_any (n := .value (rkV 33 32)) (w' := w) (by unfold execOp; simp only [hop]; simp [go_sem, Act.eval, rkV]) ?_
  rw [Oper.upon_value, hd]
  exact ⟨hF.put (by decide) _, fun hb' => (eval_other (by decide)).trans (c0 hb'), fun _ => (eval_same (by omega)).trans (rfl), fun hb' => (eval_other (by decide)).trans (c2 hb'), fun hb' => (eval_other (by decide)).trans (c3 hb'), fun hb' => (eval_other (by decide)).trans (c5 hb'), fun hb' => (eval_other (by decide)).trans (c6 hb'), fun hb' => (eval_other (by decide)).trans (c7 hb'), fun hb' => (eval_other (by decide)).trans (c9 hb'), fun hb' => (eval_other (by decide)).trans (c10 hb'), fun hb' => (eval_other (by decide)).trans (c11 hb'), fun hb' => (eval_other (by decide)).trans (c13 hb'), fun hb' => (eval_other (by decide)).trans (c14 hb'), fun hb' => (eval_other (by decide)).trans (c15 hb'), fun hb' => (eval_other (by decide)).trans (c17 hb'), fun hb' => (eval_other (by decide)).trans (c18 hb'), hw.other (by unfold Four; omega) (by omega)⟩
 ·obtain ⟨hop, hd, hg, hp⟩ := s2.get ho he
  refine wpOp_plain ho hg ?_
  refine op_move (.inl hop) ?_
  rw [hd]
  exact ⟨hF.put (by decide) _, fun hb' => (eval_other (by decide)).trans (c0 hb'), fun hb' => (eval_other (by decide)).trans (c1 hb'), fun _ => (eval_same (by omega)).trans ((hF.eval (by decide)).trans e0), fun hb' => (eval_other (by decide)).trans (c3 hb'), fun hb' => (eval_other (by decide)).trans (c5 hb'), fun hb' => (eval_other (by decide)).trans (c6 hb'), fun hb' => (eval_other (by decide)).trans (c7 hb'), fun hb' => (eval_other (by decide)).trans (c9 hb'), fun hb' => (eval_other (by decide)).trans (c10 hb'), fun hb' => (eval_other (by decide)).trans (c11 hb'), fun hb' => (eval_other (by decide)).trans (c13 hb'), fun hb' => (eval_other (by decide)).trans (c14 hb'), fun hb' => (eval_other (by decide)).trans (c15 hb'), fun hb' => (eval_other (by decide)).trans (c17 hb'), fun hb' => (eval_other (by decide)).trans (c18 hb'), hw.other (by unfold Four; omega) (by omega)⟩
 ·obtain ⟨hop, hd, hg, hp⟩ := s3.get ho he
  have p2 := hp 2 (by simp)
  refine wpOp_plain ho hg ?_
  refine op_any (n := .value (rfV 34 P)) (w' := w) (by unfold execOp; simp only [hop]; have cc := c2 p2; rw [show a.eval (.tmp 23) = a.tmps.getD 23 undef from rfl, Array.getD_eq_getD_getElem?] at cc; simp [rfV, go_sem]; exact cc) ?_
  rw [Oper.upon_value, hd]
  exact ⟨hF.put (by decide) _, fun hb' => (eval_other (by decide)).trans (c0 hb'), fun hb' => (eval_other (by decide)).trans (c1 hb'), fun hb' => (eval_other (by decide)).trans (c2 hb'), fun _ => (eval_same (by omega)).trans (rfl), fun hb' => (eval_other (by decide)).trans (c5 hb'), fun hb' => (eval_other (by decide)).trans (c6 hb'), fun hb' => (eval_other (by decide)).trans (c7 hb'), fun hb' => (eval_other (by decide)).trans (c9 hb'), fun hb' => (eval_other (by decide)).trans (c10 hb'), fun hb' => (eval_other (by decide)).trans (c11 hb'), fun hb' => (eval_other (by decide)).trans (c13 hb'), fun hb' => (eval_other (by decide)).trans (c14 hb'), fun hb' => (eval_other (by decide)).trans (c15 hb'), fun hb' => (eval_other (by decide)).trans (c17 hb'), fun hb' => (eval_other (by decide)).trans (c18 hb'), hw.other (by unfold Four; omega) (by omega)⟩
 ·obtain ⟨hop, hd, hg, hp⟩ := s4.get ho he
  have p0 := hp 0 (by simp)
  have p1 := hp 1 (by simp)
  have p3 := hp 3 (by simp)
  refine wpOp_plain ho hg ?_
  obtain ⟨h1, h2, h3, h4⟩ := hw
  obtain ⟨w5, hrun, hW, hM⟩ := (h3 p0).put (i := 4) (.inl rfl) hb
  refine op_any (n := .skip) (w' := w5) (by unfold execOp; simp only [hop]; rw [c0 p0, c1 p1, c3 p3]; simp only [Sem.run_bind]; rw [show (Instr.mapUpdate 102 (.map (some w0.heap.size)) (rkV 33 32) (rfV 34 P)).run Try.prog w = .ok () w5 from hrun]; rfl) ?_
  rw [Oper.upon_skip, hd]
  exact ⟨hF.put0 _, fun hb' => c0 hb', fun hb' => c1 hb', fun hb' => c2 hb', fun hb' => c3 hb', fun hb' => c5 hb', fun hb' => c6 hb', fun hb' => c7 hb', fun hb' => c9 hb', fun hb' => c10 hb', fun hb' => c11 hb', fun hb' => c13 hb', fun hb' => c14 hb', fun hb' => c15 hb', fun hb' => c17 hb', fun hb' => c18 hb', ⟨h1.trans (hW.below (Nat.le_refl _)), fun hn => absurd p0 hn, fun _ => hM, fun hn => absurd p0 hn⟩⟩
 ·obtain ⟨hop, hd, hg, hp⟩ := s5.get ho he
  refine wpOp_plain ho hg ?_
  refine op_any (n := .value (rkV 161 33)) (w' := w) (by unfold execOp; simp only [hop]; simp [go_sem, Act.eval, rkV]) ?_
  rw [Oper.upon_value, hd]
  exact ⟨hF.put (by decide) _, fun hb' => (eval_other (by decide)).trans (c0 hb'), fun hb' => (eval_other (by decide)).trans (c1 hb'), fun hb' => (eval_other (by decide)).trans (c2 hb'), fun hb' => (eval_other (by decide)).trans (c3 hb'), fun _ => (eval_same (by omega)).trans (rfl), fun hb' => (eval_other (by decide)).trans (c6 hb'), fun hb' => (eval_other (by decide)).trans (c7 hb'), fun hb' => (eval_other (by decide)).trans (c9 hb'), fun hb' => (eval_other (by decide)).trans (c10 hb'), fun hb' => (eval_other (by decide)).trans (c11 hb'), fun hb' => (eval_other (by decide)).trans (c13 hb'), fun hb' => (eval_other (by decide)).trans (c14 hb'), fun hb' => (eval_other (by decide)).trans (c15 hb'), fun hb' => (eval_other (by decide)).trans (c17 hb'), fun hb' => (eval_other (by decide)).trans (c18 hb'), hw.other (by unfold Four; omega) (by omega)⟩
 ·obtain ⟨hop, hd, hg, hp⟩ := s6.get ho he
  refine wpOp_plain ho hg ?_
  refine op_move (.inl hop) ?_
  rw [hd]
  exact ⟨hF.put (by decide) _, fun hb' => (eval_other (by decide)).trans (c0 hb'), fun hb' => (eval_other (by decide)).trans (c1 hb'), fun hb' => (eval_other (by decide)).trans (c2 hb'), fun hb' => (eval_other (by decide)).trans (c3 hb'), fun hb' => (eval_other (by decide)).trans (c5 hb'), fun _ => (eval_same (by omega)).trans ((hF.eval (by decide)).trans e0), fun hb' => (eval_other (by decide)).trans (c7 hb'), fun hb' => (eval_other (by decide)).trans (c9 hb'), fun hb' => (eval_other (by decide)).trans (c10 hb'), fun hb' => (eval_other (by decide)).trans (c11 hb'), fun hb' => (eval_other (by decide)).trans (c13 hb'), fun hb' => (eval_other (by decide)).trans (c14 hb'), fun hb' => (eval_other (by decide)).trans (c15 hb'), fun hb' => (eval_other (by decide)).trans (c17 hb'), fun hb' => (eval_other (by decide)).trans (c18 hb'), hw.other (by unfold Four; omega) (by omega)⟩
 ·obtain ⟨hop, hd, hg, hp⟩ := s7.get ho he
  have p6 := hp 6 (by simp)
  refine wpOp_plain ho hg ?_
  refine op_any (n := .value (rfV 35 P)) (w' := w) (by unfold execOp; simp only [hop]; have cc := c6 p6; rw [show a.eval (.tmp 26) = a.tmps.getD 26 undef from rfl, Array.getD_eq_getD_getElem?] at cc; simp [rfV, go_sem]; exact cc) ?_
  rw [Oper.upon_value, hd]
  exact ⟨hF.put (by decide) _, fun hb' => (eval_other (by decide)).trans (c0 hb'), fun hb' => (eval_other (by decide)).trans (c1 hb'), fun hb' => (eval_other (by decide)).trans (c2 hb'), fun hb' => (eval_other (by decide)).trans (c3 hb'), fun hb' => (eval_other (by decide)).trans (c5 hb'), fun hb' => (eval_other (by decide)).trans (c6 hb'), fun _ => (eval_same (by omega)).trans (rfl), fun hb' => (eval_other (by decide)).trans (c9 hb'), fun hb' => (eval_other (by decide)).trans (c10 hb'), fun hb' => (eval_other (by decide)).trans (c11 hb'), fun hb' => (eval_other (by decide)).trans (c13 hb'), fun hb' => (eval_other (by decide)).trans (c14 hb'), fun hb' => (eval_other (by decide)).trans (c15 hb'), fun hb' => (eval_other (by decide)).trans (c17 hb'), fun hb' => (eval_other (by decide)).trans (c18 hb'), hw.other (by unfold Four; omega) (by omega)⟩
 ·obtain ⟨hop, hd, hg, hp⟩ := s8.get ho he
  have p0 := hp 0 (by simp)
  have p5 := hp 5 (by simp)
  have p7 := hp 7 (by simp)
  refine wpOp_plain ho hg ?_
  obtain ⟨h1, h2, h3, h4⟩ := hw
  obtain ⟨w5, hrun, hW, hM⟩ := (h3 p0).put (i := 8) (.inr (.inl rfl)) hb
  refine op_any (n := .skip) (w' := w5) (by unfold execOp; simp only [hop]; rw [c0 p0, c5 p5, c7 p7]; simp only [Sem.run_bind]; rw [show (Instr.mapUpdate 102 (.map (some w0.heap.size)) (rkV 161 33) (rfV 35 P)).run Try.prog w = .ok () w5 from hrun]; rfl) ?_
  rw [Oper.upon_skip, hd]
  exact ⟨hF.put0 _, fun hb' => c0 hb', fun hb' => c1 hb', fun hb' => c2 hb', fun hb' => c3 hb', fun hb' => c5 hb', fun hb' => c6 hb', fun hb' => c7 hb', fun hb' => c9 hb', fun hb' => c10 hb', fun hb' => c11 hb', fun hb' => c13 hb', fun hb' => c14 hb', fun hb' => c15 hb', fun hb' => c17 hb', fun hb' => c18 hb', ⟨h1.trans (hW.below (Nat.le_refl _)), fun hn => absurd p0 hn, fun _ => hM, fun hn => absurd p0 hn⟩⟩
 ·obtain ⟨hop, hd, hg, hp⟩ := s9.get ho he
  refine wpOp_plain ho hg ?_
  refine op_any (n := .value (rkV 33 34)) (w' := w) (by unfold execOp; simp only [hop]; simp [go_sem, Act.eval, rkV]) ?_
  rw [Oper.upon_value, hd]
  exact ⟨hF.put (by decide) _, fun hb' => (eval_other (by decide)).trans (c0 hb'), fun hb' => (eval_other (by decide)).trans (c1 hb'), fun hb' => (eval_other (by decide)).trans (c2 hb'), fun hb' => (eval_other (by decide)).trans (c3 hb'), fun hb' => (eval_other (by decide)).trans (c5 hb'), fun hb' => (eval_other (by decide)).trans (c6 hb'), fun hb' => (eval_other (by decide)).trans (c7 hb'), fun _ => (eval_same (by omega)).trans (rfl), fun hb' => (eval_other (by decide)).trans (c10 hb'), fun hb' => (eval_other (by decide)).trans (c11 hb'), fun hb' => (eval_other (by decide)).trans (c13 hb'), fun hb' => (eval_other (by decide)).trans (c14 hb'), fun hb' => (eval_other (by decide)).trans (c15 hb'), fun hb' => (eval_other (by decide)).trans (c17 hb'), fun hb' => (eval_other (by decide)).trans (c18 hb'), hw.other (by unfold Four; omega) (by omega)⟩
 ·obtain ⟨hop, hd, hg, hp⟩ := s10.get ho he
  refine wpOp_plain ho hg ?_
  refine op_move (.inl hop) ?_
  rw [hd]
  exact ⟨hF.put (by decide) _, fun hb' => (eval_other (by decide)).trans (c0 hb'), fun hb' => (eval_other (by decide)).trans (c1 hb'), fun hb' => (eval_other (by decide)).trans (c2 hb'), fun hb' => (eval_other (by decide)).trans (c3 hb'), fun hb' => (eval_other (by decide)).trans (c5 hb'), fun hb' => (eval_other (by decide)).trans (c6 hb'), fun hb' => (eval_other (by decide)).trans (c7 hb'), fun hb' => (eval_other (by decide)).trans (c9 hb'), fun _ => (eval_same (by omega)).trans ((hF.eval (by decide)).trans e0), fun hb' => (eval_other (by decide)).trans (c11 hb'), fun hb' => (eval_other (by decide)).trans (c13 hb'), fun hb' => (eval_other (by decide)).trans (c14 hb'), fun hb' => (eval_other (by decide)).trans (c15 hb'), fun hb' => (eval_other (by decide)).trans (c17 hb'), fun hb' => (eval_other (by decide)).trans (c18 hb'), hw.other (by unfold Four; omega) (by omega)⟩
 ·obtain ⟨hop, hd, hg, hp⟩ := s11.get ho he
  have p10 := hp 10 (by simp)
  refine wpOp_plain ho hg ?_
  refine op_any (n := .value (rfV 36 P)) (w' := w) (by unfold execOp; simp only [hop]; have cc := c10 p10; rw [show a.eval (.tmp 29) = a.tmps.getD 29 undef from rfl, Array.getD_eq_getD_getElem?] at cc; simp [rfV, go_sem]; exact cc) ?_
  rw [Oper.upon_value, hd]
  exact ⟨hF.put (by decide) _, fun hb' => (eval_other (by decide)).trans (c0 hb'), fun hb' => (eval_other (by decide)).trans (c1 hb'), fun hb' => (eval_other (by decide)).trans (c2 hb'), fun hb' => (eval_other (by decide)).trans (c3 hb'), fun hb' => (eval_other (by decide)).trans (c5 hb'), fun hb' => (eval_other (by decide)).trans (c6 hb'), fun hb' => (eval_other (by decide)).trans (c7 hb'), fun hb' => (eval_other (by decide)).trans (c9 hb'), fun hb' => (eval_other (by decide)).trans (c10 hb'), fun _ => (eval_same (by omega)).trans (rfl), fun hb' => (eval_other (by decide)).trans (c13 hb'), fun hb' => (eval_other (by decide)).trans (c14 hb'), fun hb' => (eval_other (by decide)).trans (c15 hb'), fun hb' => (eval_other (by decide)).trans (c17 hb'), fun hb' => (eval_other (by decide)).trans (c18 hb'), hw.other (by unfold Four; omega) (by omega)⟩
 ·obtain ⟨hop, hd, hg, hp⟩ := s12.get ho he
  have p0 := hp 0 (by simp)
  have p9 := hp 9 (by simp)
  have p11 := hp 11 (by simp)
  refine wpOp_plain ho hg ?_
  obtain ⟨h1, h2, h3, h4⟩ := hw
  obtain ⟨w5, hrun, hW, hM⟩ := (h3 p0).put (i := 12) (.inr (.inr (.inl rfl))) hb
  refine op_any (n := .skip) (w' := w5) (by unfold execOp; simp only [hop]; rw [c0 p0, c9 p9, c11 p11]; simp only [Sem.run_bind]; rw [show (Instr.mapUpdate 102 (.map (some w0.heap.size)) (rkV 33 34) (rfV 36 P)).run Try.prog w = .ok () w5 from hrun]; rfl) ?_
  rw [Oper.upon_skip, hd]
  exact ⟨hF.put0 _, fun hb' => c0 hb', fun hb' => c1 hb', fun hb' => c2 hb', fun hb' => c3 hb', fun hb' => c5 hb', fun hb' => c6 hb', fun hb' => c7 hb', fun hb' => c9 hb', fun hb' => c10 hb', fun hb' => c11 hb', fun hb' => c13 hb', fun hb' => c14 hb', fun hb' => c15 hb', fun hb' => c17 hb', fun hb' => c18 hb', ⟨h1.trans (hW.below (Nat.le_refl _)), fun hn => absurd p0 hn, fun _ => hM, fun hn => absurd p0 hn⟩⟩
 ·obtain ⟨hop, hd, hg, hp⟩ := s13.get ho he
  refine wpOp_plain ho hg ?_
  refine op_any (n := .value (rkV 33 35)) (w' := w) (by unfold execOp; simp only [hop]; simp [go_sem, Act.eval, rkV]) ?_
  rw [Oper.upon_value, hd]
  exact ⟨hF.put (by decide) _, fun hb' => (eval_other (by decide)).trans (c0 hb'), fun hb' => (eval_other (by decide)).trans (c1 hb'), fun hb' => (eval_other (by decide)).trans (c2 hb'), fun hb' => (eval_other (by decide)).trans (c3 hb'), fun hb' => (eval_other (by decide)).trans (c5 hb'), fun hb' => (eval_other (by decide)).trans (c6 hb'), fun hb' => (eval_other (by decide)).trans (c7 hb'), fun hb' => (eval_other (by decide)).trans (c9 hb'), fun hb' => (eval_other (by decide)).trans (c10 hb'), fun hb' => (eval_other (by decide)).trans (c11 hb'), fun _ => (eval_same (by omega)).trans (rfl), fun hb' => (eval_other (by decide)).trans (c14 hb'), fun hb' => (eval_other (by decide)).trans (c15 hb'), fun hb' => (eval_other (by decide)).trans (c17 hb'), fun hb' => (eval_other (by decide)).trans (c18 hb'), hw.other (by unfold Four; omega) (by omega)⟩
 ·obtain ⟨hop, hd, hg, hp⟩ := s14.get ho he
  refine wpOp_plain ho hg ?_
  refine op_move (.inl hop) ?_
  rw [hd]
  exact ⟨hF.put (by decide) _, fun hb' => (eval_other (by decide)).trans (c0 hb'), fun hb' => (eval_other (by decide)).trans (c1 hb'), fun hb' => (eval_other (by decide)).trans (c2 hb'), fun hb' => (eval_other (by decide)).trans (c3 hb'), fun hb' => (eval_other (by decide)).trans (c5 hb'), fun hb' => (eval_other (by decide)).trans (c6 hb'), fun hb' => (eval_other (by decide)).trans (c7 hb'), fun hb' => (eval_other (by decide)).trans (c9 hb'), fun hb' => (eval_other (by decide)).trans (c10 hb'), fun hb' => (eval_other (by decide)).trans (c11 hb'), fun hb' => (eval_other (by decide)).trans (c13 hb'), fun _ => (eval_same (by omega)).trans ((hF.eval (by decide)).trans e0), fun hb' => (eval_other (by decide)).trans (c15 hb'), fun hb' => (eval_other (by decide)).trans (c17 hb'), fun hb' => (eval_other (by decide)).trans (c18 hb'), hw.other (by unfold Four; omega) (by omega)⟩
 ·obtain ⟨hop, hd, hg, hp⟩ := s15.get ho he
  have p14 := hp 14 (by simp)
  refine wpOp_plain ho hg ?_
  refine op_any (n := .value (rfV 37 P)) (w' := w) (by unfold execOp; simp only [hop]; have cc := c14 p14; rw [show a.eval (.tmp 32) = a.tmps.getD 32 undef from rfl, Array.getD_eq_getD_getElem?] at cc; simp [rfV, go_sem]; exact cc) ?_
  rw [Oper.upon_value, hd]
  exact ⟨hF.put (by decide) _, fun hb' => (eval_other (by decide)).trans (c0 hb'), fun hb' => (eval_other (by decide)).trans (c1 hb'), fun hb' => (eval_other (by decide)).trans (c2 hb'), fun hb' => (eval_other (by decide)).trans (c3 hb'), fun hb' => (eval_other (by decide)).trans (c5 hb'), fun hb' => (eval_other (by decide)).trans (c6 hb'), fun hb' => (eval_other (by decide)).trans (c7 hb'), fun hb' => (eval_other (by decide)).trans (c9 hb'), fun hb' => (eval_other (by decide)).trans (c10 hb'), fun hb' => (eval_other (by decide)).trans (c11 hb'), fun hb' => (eval_other (by decide)).trans (c13 hb'), fun hb' => (eval_other (by decide)).trans (c14 hb'), fun _ => (eval_same (by omega)).trans (rfl), fun hb' => (eval_other (by decide)).trans (c17 hb'), fun hb' => (eval_other (by decide)).trans (c18 hb'), hw.other (by unfold Four; omega) (by omega)⟩
 ·obtain ⟨hop, hd, hg, hp⟩ := s16.get ho he
  have p0 := hp 0 (by simp)
  have p13 := hp 13 (by simp)
  have p15 := hp 15 (by simp)
  refine wpOp_plain ho hg ?_
  obtain ⟨h1, h2, h3, h4⟩ := hw
  obtain ⟨w5, hrun, hW, hM⟩ := (h3 p0).put (i := 16) (.inr (.inr (.inr rfl))) hb
  refine op_any (n := .skip) (w' := w5) (by unfold execOp; simp only [hop]; rw [c0 p0, c13 p13, c15 p15]; simp only [Sem.run_bind]; rw [show (Instr.mapUpdate 102 (.map (some w0.heap.size)) (rkV 33 35) (rfV 37 P)).run Try.prog w = .ok () w5 from hrun]; rfl) ?_
  rw [Oper.upon_skip, hd]
  exact ⟨hF.put0 _, fun hb' => c0 hb', fun hb' => c1 hb', fun hb' => c2 hb', fun hb' => c3 hb', fun hb' => c5 hb', fun hb' => c6 hb', fun hb' => c7 hb', fun hb' => c9 hb', fun hb' => c10 hb', fun hb' => c11 hb', fun hb' => c13 hb', fun hb' => c14 hb', fun hb' => c15 hb', fun hb' => c17 hb', fun hb' => c18 hb', ⟨h1.trans (hW.below (Nat.le_refl _)), fun hn => absurd p0 hn, fun _ => hM, fun hn => absurd p0 hn⟩⟩
 ·obtain ⟨hop, hd, hg, hp⟩ := s17.get ho he
  have p0 := hp 0 (by simp)
  refine wpOp_plain ho hg ?_
  refine op_move (.inl hop) ?_
  rw [hd]
  exact ⟨hF.put (by decide) _, fun hb' => (eval_other (by decide)).trans (c0 hb'), fun hb' => (eval_other (by decide)).trans (c1 hb'), fun hb' => (eval_other (by decide)).trans (c2 hb'), fun hb' => (eval_other (by decide)).trans (c3 hb'), fun hb' => (eval_other (by decide)).trans (c5 hb'), fun hb' => (eval_other (by decide)).trans (c6 hb'), fun hb' => (eval_other (by decide)).trans (c7 hb'), fun hb' => (eval_other (by decide)).trans (c9 hb'), fun hb' => (eval_other (by decide)).trans (c10 hb'), fun hb' => (eval_other (by decide)).trans (c11 hb'), fun hb' => (eval_other (by decide)).trans (c13 hb'), fun hb' => (eval_other (by decide)).trans (c14 hb'), fun hb' => (eval_other (by decide)).trans (c15 hb'), fun _ => (eval_same (by omega)).trans (c0 p0), fun hb' => (eval_other (by decide)).trans (c18 hb'), hw.other (by unfold Four; omega) (by omega)⟩
 ·obtain ⟨hop, hd, hg, hp⟩ := s18.get ho he
  have p17 := hp 17 (by simp)
  refine wpOp_plain ho hg ?_
  refine op_move (.inr hop) ?_
  rw [hd]
  exact ⟨hF.put (by decide) _, fun hb' => (eval_other (by decide)).trans (c0 hb'), fun hb' => (eval_other (by decide)).trans (c1 hb'), fun hb' => (eval_other (by decide)).trans (c2 hb'), fun hb' => (eval_other (by decide)).trans (c3 hb'), fun hb' => (eval_other (by decide)).trans (c5 hb'), fun hb' => (eval_other (by decide)).trans (c6 hb'), fun hb' => (eval_other (by decide)).trans (c7 hb'), fun hb' => (eval_other (by decide)).trans (c9 hb'), fun hb' => (eval_other (by decide)).trans (c10 hb'), fun hb' => (eval_other (by decide)).trans (c11 hb'), fun hb' => (eval_other (by decide)).trans (c13 hb'), fun hb' => (eval_other (by decide)).trans (c14 hb'), fun hb' => (eval_other (by decide)).trans (c15 hb'), fun hb' => (eval_other (by decide)).trans (c17 hb'), fun _ => (eval_same (by omega)).trans (c17 p17), hw.other (by unfold Four; omega) (by omega)⟩
end Go.Proofs.Ythifcblajimppaa
