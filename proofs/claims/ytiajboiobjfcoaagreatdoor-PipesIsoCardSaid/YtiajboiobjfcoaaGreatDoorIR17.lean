/-
  What is proved here: what the law's region 17 does, whatever the order of its operations.
  Conditions: what the calls in it return.
-/
import Derived.Test.YtiajboiobjfcoaaGreatDoorIRuns
import Derived.Test.YtiajboiobjfcoaaGreatDoorIReg
namespace Go.Proofs.YtiajboiobjfcoaaGreatDoor
open Go.Proofs Go.RowKit
def boxes (inn : Bool) (ln : Nat) (b : Nat → Bool) (tot : Int) (g A B : Nat) : List (Nat × Obj) :=
 (if b 14 = true then [(A, .cells (if b 16 = true then end4 tot g ln else z4) 60 (0, 0))] else []) ++ (if b 15 = true then [(B, .cells (if b 17 = true then pCells inn else z11) 30 (0, 0))] else [])
def WI (wC : World) (G : Nat) (inn : Bool) (ln : Nat) (K : GrK) (Fin : (Nat → Int) → (Nat → List Int) → Int → GrS → Prop) (t : List Int) (b : Nat → Bool) (L R : Nat) (V : Array Value) (tot : Int) (g A B : Nat) (w : World) : Prop :=
 if b 9 = true then P3 wC G inn ln K Fin tot g w (boxes inn ln b tot g A B) else if b 8 = true then P2 wC G inn ln K Fin V w (boxes inn ln b tot g A B) else if b 4 = true then P1 wC t L R w (boxes inn ln b tot g A B) else P0 wC w (boxes inn ln b tot g A B)
def I17 (a0 : Act) (wC : World) (G : Nat) (inn : Bool) (ln : Nat) (K : GrK) (Fin : (Nat → Int) → (Nat → List Int) → Int → GrS → Prop) (t : List Int) (V0 : Array Value) (lA fA : Option Addr) (lc fn fc : Nat) (b : Nat → Bool) (a : Act) (w : World) : Prop :=
 Fr [97, 98, 99, 100, 101, 102, 103, 104, 105, 106, 96, 107, 108, 109, 14, 15, 16] a0 a ∧ ∃ (L R : Nat) (V : Array Value) (tot : Int) (g A B : Nat), (b 0 = true → a.eval (.tmp 97) = .agg V0) ∧
  (b 1 = true → a.eval (.tmp 98) = .pointer (some ⟨G, 0, none⟩)) ∧
  (b 2 = true → a.eval (.tmp 99) = .iface 32 (.pointer (some ⟨G, 0, none⟩))) ∧
  (b 3 = true → a.eval (.tmp 100) = .slice fA fn fc) ∧
  (b 4 = true → a.eval (.tmp 101) = .pointer (some ⟨L, 0, none⟩)) ∧
  (b 5 = true → a.eval (.tmp 102) = .iface 35 (.pointer (some ⟨L, 0, none⟩))) ∧
  (b 6 = true → a.eval (.tmp 103) = .slice lA ln lc) ∧
  (b 7 = true → a.eval (.tmp 104) = .int .i64 (ln : Int)) ∧
  (b 8 = true → a.eval (.tmp 105) = .agg V) ∧
  (b 9 = true → a.eval (.tmp 106) = .tuple #[.agg (end4 tot g ln), .agg (pCells inn), .bool true]) ∧
  (b 10 = true → a.eval (.tmp 96) = .tuple #[.agg (end4 tot g ln), .agg (pCells inn), .bool true]) ∧
  (b 11 = true → a.eval (.tmp 107) = .agg (end4 tot g ln)) ∧
  (b 12 = true → a.eval (.tmp 108) = .agg (pCells inn)) ∧
  (b 13 = true → a.eval (.tmp 109) = .bool true) ∧
  (b 14 = true → a.eval (.tmp 14) = .pointer (some ⟨A, 0, none⟩)) ∧
  (b 15 = true → a.eval (.tmp 15) = .pointer (some ⟨B, 0, none⟩)) ∧
  (b 18 = true → a.eval (.tmp 16) = .bool true) ∧
  (b 5 = true → b 4 = true) ∧ (b 8 = true → b 5 = true) ∧ (b 9 = true → b 8 = true) ∧ (b 10 = true → b 9 = true) ∧ (b 11 = true → b 10 = true) ∧ (b 12 = true → b 10 = true) ∧ (b 13 = true → b 10 = true) ∧ (b 16 = true → b 14 = true) ∧ (b 16 = true → b 9 = true) ∧ (b 17 = true → b 15 = true) ∧ (b 17 = true → b 9 = true) ∧ (b 18 = true → b 13 = true) ∧ (b 14 = true → b 15 = true → A ≠ B) ∧ WI wC G inn ln K Fin t b L R V tot g A B w
theorem WI.keep {wC : World} {G ln : Nat} {inn : Bool} {K : GrK} {Fin : (Nat → Int) → (Nat → List Int) → Int → GrS → Prop} {t : List Int} {b : Nat → Bool} {L R g A B : Nat} {V : Array Value} {tot : Int} {w : World} (h : WI wC G inn ln K Fin t b L R V tot g A B w) : Kp G wC w := by
 have hk : ∀ {w : World}, Below wC.heap.size wC w → Kp G wC w := fun h => ⟨h.os, h.tape, h.output, h.size, fun i hi _ => h.block i hi⟩
 unfold WI at h
 split at h
 ·exact h.1
 ·split at h
  ·exact h.1
  ·split at h
   ·exact hk h.1
   ·exact hk h.1
theorem WI.has {wC : World} {G ln : Nat} {inn : Bool} {K : GrK} {Fin : (Nat → Int) → (Nat → List Int) → Int → GrS → Prop} {t : List Int} {b : Nat → Bool} {L R g A B : Nat} {V : Array Value} {tot : Int} {w : World} (h : WI wC G inn ln K Fin t b L R V tot g A B w) : Has wC w (boxes inn ln b tot g A B) := by
 unfold WI at h
 split at h
 ·exact h.2.1
 ·split at h
  ·exact h.2.1
  ·split at h
   ·exact h.2.2.2.2.1
   ·exact h.2
theorem WI.alloc {wC : World} {G ln : Nat} {inn : Bool} {K : GrK} {Fin : (Nat → Int) → (Nat → List Int) → Int → GrS → Prop} {t : List Int} {b b' : Nat → Bool} {L R g A B A' B' : Nat} {V : Array Value} {tot : Int} {w : World} (h : WI wC G inn ln K Fin t b L R V tot g A B w) (o : Obj)
  (h9 : b' 9 = b 9) (h8 : b' 8 = b 8) (h4 : b' 4 = b 4) (hb : ∀ p ∈ boxes inn ln b' tot g A' B', p ∈ (w.heap.size, o) :: boxes inn ln b tot g A B) : WI wC G inn ln K Fin t b' L R V tot g A' B' (w.alloc o) := by
 unfold WI at h ⊢
 rw [h9, h8, h4]
 split
 ·rw [if_pos (by assumption)] at h
  obtain ⟨k1, k2, e, d, s, us, k3, k4, k5, k6, k7, k8, k9, k10⟩ := h.alloc o
  exact ⟨k1, fun p hp => k2 p (hb p hp), e, d, s, us, k3, k4, k5, k6, k7, k8, fun p hp => k9 p (hb p hp), k10⟩
 ·rw [if_neg (by assumption)] at h
  split
  ·rw [if_pos (by assumption)] at h
   obtain ⟨k1, k2, k3⟩ := h.alloc o
   exact ⟨k1, fun p hp => k2 p (hb p hp), k3⟩
  ·rw [if_neg (by assumption)] at h
   split
   ·rw [if_pos (by assumption)] at h
    obtain ⟨k1, k2, k3, k4, k5, k6⟩ := h.alloc o
    exact ⟨k1, k2, k3, k4, fun p hp => k5 p (hb p hp), fun p hp => k6 p (hb p hp)⟩
   ·rw [if_neg (by assumption)] at h
    obtain ⟨k1, k2⟩ := h.alloc o
    exact ⟨k1, fun p hp => k2 p (hb p hp)⟩
theorem WI.congr {wC : World} {G ln : Nat} {inn : Bool} {K : GrK} {Fin : (Nat → Int) → (Nat → List Int) → Int → GrS → Prop} {t : List Int} {b b' : Nat → Bool} {L R g A B : Nat} {V : Array Value} {tot : Int} {w : World} (h9 : b' 9 = b 9) (h8 : b' 8 = b 8) (h4 : b' 4 = b 4) (h14 : b' 14 = b 14) (h15 : b' 15 = b 15) (h16 : b' 16 = b 16) (h17 : b' 17 = b 17)
  (h : WI wC G inn ln K Fin t b L R V tot g A B w) : WI wC G inn ln K Fin t b' L R V tot g A B w := by
 unfold WI boxes at h ⊢
 rw [h9, h8, h4, h14, h15, h16, h17]
 exact h
theorem WI.e0 {wC : World} {G ln : Nat} {inn : Bool} {K : GrK} {Fin : (Nat → Int) → (Nat → List Int) → Int → GrS → Prop} {t : List Int} {b : Nat → Bool} {L R g A B : Nat} {V : Array Value} {tot : Int} {w : World} (h9 : ¬ b 9 = true) (h8 : ¬ b 8 = true) (h4 : ¬ b 4 = true) : WI wC G inn ln K Fin t b L R V tot g A B w = P0 wC w (boxes inn ln b tot g A B) := by
 unfold WI; rw [if_neg h9, if_neg h8, if_neg h4]
theorem WI.e1 {wC : World} {G ln : Nat} {inn : Bool} {K : GrK} {Fin : (Nat → Int) → (Nat → List Int) → Int → GrS → Prop} {t : List Int} {b : Nat → Bool} {L R g A B : Nat} {V : Array Value} {tot : Int} {w : World} (h9 : ¬ b 9 = true) (h8 : ¬ b 8 = true) (h4 : b 4 = true) : WI wC G inn ln K Fin t b L R V tot g A B w = P1 wC t L R w (boxes inn ln b tot g A B) := by
 unfold WI; rw [if_neg h9, if_neg h8, if_pos h4]
theorem WI.e2 {wC : World} {G ln : Nat} {inn : Bool} {K : GrK} {Fin : (Nat → Int) → (Nat → List Int) → Int → GrS → Prop} {t : List Int} {b : Nat → Bool} {L R g A B : Nat} {V : Array Value} {tot : Int} {w : World} (h9 : ¬ b 9 = true) (h8 : b 8 = true) : WI wC G inn ln K Fin t b L R V tot g A B w = P2 wC G inn ln K Fin V w (boxes inn ln b tot g A B) := by
 unfold WI; rw [if_neg h9, if_pos h8]
theorem WI.e3 {wC : World} {G ln : Nat} {inn : Bool} {K : GrK} {Fin : (Nat → Int) → (Nat → List Int) → Int → GrS → Prop} {t : List Int} {b : Nat → Bool} {L R g A B : Nat} {V : Array Value} {tot : Int} {w : World} (h9 : b 9 = true) : WI wC G inn ln K Fin t b L R V tot g A B w = P3 wC G inn ln K Fin tot g w (boxes inn ln b tot g A B) := by
 unfold WI; rw [if_pos h9]
theorem boxes_eq {inn : Bool} {ln : Nat} {b b' : Nat → Bool} {tot tot' : Int} {g g' A B : Nat} (h14 : b' 14 = b 14) (h15 : b' 15 = b 15) (h16 : b' 16 = b 16) (h17 : b' 17 = b 17) (h : (b 16 = true → tot' = tot ∧ g' = g)) : boxes inn ln b' tot' g' A B = boxes inn ln b tot g A B := by
 unfold boxes
 rw [h14, h15, h16, h17]
 by_cases h6 : b 16 = true
 ·obtain ⟨rfl, rfl⟩ := h h6; rfl
 ·rw [if_neg h6, if_neg h6]
theorem boxA {inn : Bool} {ln : Nat} {b : Nat → Bool} {tot : Int} {g A B : Nat} (h14 : b 14 = true) : (A, Obj.cells (if b 16 = true then end4 tot g ln else z4) 60 (0, 0)) ∈ boxes inn ln b tot g A B := by
 unfold boxes; rw [if_pos h14]; simp
theorem boxB {inn : Bool} {ln : Nat} {b : Nat → Bool} {tot : Int} {g A B : Nat} (h15 : b 15 = true) : (B, Obj.cells (if b 17 = true then pCells inn else z11) 30 (0, 0)) ∈ boxes inn ln b tot g A B := by
 unfold boxes; rw [if_pos h15]; simp
theorem box_cases {inn : Bool} {ln : Nat} {b : Nat → Bool} {tot : Int} {g A B : Nat} {p : Nat × Obj} (h : p ∈ boxes inn ln b tot g A B) : (b 14 = true ∧ p = (A, Obj.cells (if b 16 = true then end4 tot g ln else z4) 60 (0, 0))) ∨ (b 15 = true ∧ p = (B, Obj.cells (if b 17 = true then pCells inn else z11) 30 (0, 0))) := by
 unfold boxes at h
 rcases List.mem_append.1 h with h | h
 ·split at h
  ·exact .inl ⟨by assumption, List.mem_singleton.1 h⟩
  ·exact nomatch h
 ·split at h
  ·exact .inr ⟨by assumption, List.mem_singleton.1 h⟩
  ·exact nomatch h
def Sp (ops : Array Oper) (i : Nat) (op : Op) (dst : Option Tmp) (pre : List Nat) : Prop := ∃ o, ops[i]? = some o ∧ o.op = op ∧ o.dst = dst ∧ o.guard = none ∧ (pre.all fun j => o.after.toList.any fun e => (e.on == j) && Region.binds .any e) = true
theorem Sp.get {ops : Array Oper} {i : Nat} {op : Op} {dst : Option Tmp} {pre : List Nat} (h : Sp ops i op dst pre) {o : Oper} (ho : ops[i]? = some o) {b : Nat → Bool} (he : ∀ e ∈ o.after, Region.binds .any e = true → b e.on = true) : o.op = op ∧ o.dst = dst ∧ o.guard = none ∧ ∀ j ∈ pre, b j = true := by
 obtain ⟨o', h1, h2, h3, h4, h5⟩ := h
 rw [ho] at h1
 obtain rfl := Option.some.inj h1
 refine ⟨h2, h3, h4, fun j hj => ?_⟩
 obtain ⟨e, he1, he2⟩ := List.any_eq_true.1 (List.all_eq_true.1 h5 j hj)
 rw [Bool.and_eq_true, beq_iff_eq] at he2
 rw [← he2.1]
 exact he e (by simpa using he1) he2.2
set_option maxHeartbeats 4000000 in
set_option maxRecDepth 1000000 in
theorem r17 {ops : Array Oper} {Q : Exit → Act → World → Prop} {id : Nat} {a0 : Act} {wC : World} {G bW ln lc fn fc : Nat} {inn : Bool} {K : GrK} {Fin : (Nat → Int) → (Nat → List Int) → Int → GrS → Prop} {t fs : List Int} {V0 : Array Value} {lA fA : Option Addr}
  (hback : edgesBack ops = true) (hn : ops.size = 19)
  (s0 : Sp ops 0 (.load 54 (.tmp 12)) (some 97) [])
  (s1 : Sp ops 1 (.move (.tmp 8)) (some 98) [])
  (s2 : Sp ops 2 (.makeInterface 32 (.tmp 98)) (some 99) [1])
  (s3 : Sp ops 3 (.move (.tmp 1)) (some 100) [])
  (s4 : Sp ops 4 (.call { callee := .value (.func 9), args := #[.tmp 100], argTypes := #[23] }) (some 101) [3])
  (s5 : Sp ops 5 (.makeInterface 35 (.tmp 101)) (some 102) [4])
  (s6 : Sp ops 6 (.move (.tmp 0)) (some 103) [])
  (s7 : Sp ops 7 (.call { callee := .builtin .len, args := #[.tmp 103], argTypes := #[22] }) (some 104) [6])
  (s8 : Sp ops 8 (.call { callee := .value (.func 12), args := #[.tmp 97, .tmp 99, .tmp 102, .tmp 104], argTypes := #[54, 102, 104, 3] }) (some 105) [0, 2, 5, 7])
  (s9 : Sp ops 9 (.call { callee := .value (.func 17), args := #[.tmp 105], argTypes := #[54] }) (some 106) [8])
  (s10 : Sp ops 10 (.move (.tmp 106)) (some 96) [9])
  (s11 : Sp ops 11 (.extract (.tmp 96) 0) (some 107) [10])
  (s12 : Sp ops 12 (.extract (.tmp 96) 1) (some 108) [10])
  (s13 : Sp ops 13 (.extract (.tmp 96) 2) (some 109) [10])
  (s14 : Sp ops 14 (.alloc 60) (some 14) [])
  (s15 : Sp ops 15 (.alloc 30) (some 15) [])
  (s16 : Sp ops 16 (.store 60 (.tmp 14) (.tmp 107)) (none) [14, 11, 9])
  (s17 : Sp ops 17 (.store 30 (.tmp 15) (.tmp 108)) (none) [15, 12, 9])
  (s18 : Sp ops 18 (.assign (.tmp 109)) (some 16) [13])
  (hsz0 : a0.tmps.size = 247) (e0 : a0.eval (.tmp 0) = .slice lA ln lc) (e1 : a0.eval (.tmp 1) = .slice fA fn fc) (e8 : a0.eval (.tmp 8) = .pointer (some ⟨G, 0, none⟩)) (e12 : a0.eval (.tmp 12) = .pointer (some ⟨bW, 0, none⟩))
  (hW : wC.heap[bW]? = some (.cells V0 54 (0, 0))) (hWG : bW ≠ G) (hV47 : V0.size = 47) (hu : U8 wC fA fn fc fs) (hfn : fn ≤ 1000) (hft : fs.map faultOf = t) (hl : 1 ≤ ln ∧ ln ≤ 30) (hG : G < wC.heap.size)
  (hrun : ∀ (w : World) bs L R, P1 wC t L R w bs → Calls Tryz.prog 12 #[.agg V0, .iface 32 (.pointer (some ⟨G, 0, none⟩)), .iface 35 (.pointer (some ⟨L, 0, none⟩)), .int .i64 (ln : Int)] w fun e w' => ∃ V, e = .returned (.agg V) ∧ P2 wC G inn ln K Fin V w' bs)
  (hQ : ∀ (a : Act) (w : World) (tot : Int) (g A B : Nat), Fr [97, 98, 99, 100, 101, 102, 103, 104, 105, 106, 96, 107, 108, 109, 14, 15, 16] a0 a → a.eval (.tmp 14) = .pointer (some ⟨A, 0, none⟩) → a.eval (.tmp 15) = .pointer (some ⟨B, 0, none⟩) → a.eval (.tmp 16) = .bool true → P3 wC G inn ln K Fin tot g w [(A, .cells (end4 tot g ln) 60 (0, 0)), (B, .cells (pCells inn) 30 (0, 0))] → A ≠ B → Q .normal a w) :
  (Code.region id ops true).wp Tryz.prog Q a0 wC := by
 refine region_inv (by kernel_rfl) hback (I17 a0 wC G inn ln K Fin t V0 lA fA lc fn fc) ?_ ?_ ?_
 ·refine ⟨Fr.refl _ _, 0, 0, #[], 0, 0, 0, 0, (fun h => nomatch h), (fun h => nomatch h), (fun h => nomatch h), (fun h => nomatch h), (fun h => nomatch h), (fun h => nomatch h), (fun h => nomatch h), (fun h => nomatch h), (fun h => nomatch h), (fun h => nomatch h), (fun h => nomatch h), (fun h => nomatch h), (fun h => nomatch h), (fun h => nomatch h), (fun h => nomatch h), (fun h => nomatch h), (fun h => nomatch h), (fun h => nomatch h), (fun h => nomatch h), (fun h => nomatch h), (fun h => nomatch h), (fun h => nomatch h), (fun h => nomatch h), (fun h => nomatch h), (fun h => nomatch h), (fun h => nomatch h), (fun h => nomatch h), (fun h => nomatch h), (fun h => nomatch h), (fun h => nomatch h), ?_⟩
  exact ⟨(Below.refl _ _).drew, fun p hp => nomatch hp⟩
 rotate_left
 ·rintro b a w hall ⟨hF, L, R, V, tot, g, A, B, c0, c1, c2, c3, c4, c5, c6, c7, c8, c9, c10, c11, c12, c13, c14, c15, c18, k5_4, k8_5, k9_8, k10_9, k11_10, k12_10, k13_10, k16_14, k16_9, k17_15, k17_9, k18_13, hAB, hw⟩
  rw [hn] at hall
  refine hQ a w tot g A B hF (c14 (hall 14 (by decide))) (c15 (hall 15 (by decide))) (c18 (hall 18 (by decide))) ?_ (hAB (hall 14 (by decide)) (hall 15 (by decide)))
  unfold WI boxes at hw
  rw [hall 9 (by decide), hall 14 (by decide), hall 15 (by decide), hall 16 (by decide), hall 17 (by decide)] at hw
  exact hw
 rintro b a w i o ho hb he ⟨hF, L, R, V, tot, g, A, B, c0, c1, c2, c3, c4, c5, c6, c7, c8, c9, c10, c11, c12, c13, c14, c15, c18, k5_4, k8_5, k9_8, k10_9, k11_10, k12_10, k13_10, k16_14, k16_9, k17_15, k17_9, k18_13, hAB, hw⟩
 have hi : i < 19 := by rw [← hn]; exact (Array.getElem?_eq_some_iff.1 ho).1
 have hsz : a.tmps.size = 247 := hF.size.trans hsz0
 have hgi : goInt (ln : Int) = .int .i64 (ln : Int) := rfl
 obtain rfl | rfl | rfl | rfl | rfl | rfl | rfl | rfl | rfl | rfl | rfl | rfl | rfl | rfl | rfl | rfl | rfl | rfl | rfl : i = 0 ∨ i = 1 ∨ i = 2 ∨ i = 3 ∨ i = 4 ∨ i = 5 ∨ i = 6 ∨ i = 7 ∨ i = 8 ∨ i = 9 ∨ i = 10 ∨ i = 11 ∨ i = 12 ∨ i = 13 ∨ i = 14 ∨ i = 15 ∨ i = 16 ∨ i = 17 ∨ i = 18 := by omega
 ·obtain ⟨hop, hd, hg, hp⟩ := s0.get ho he
  refine wpOp_plain ho hg ?_
  refine op_load hop (by rw [hF.eval (by decide), e12]; exact run_loadAt_row (hw.keep.heap hW hWG) Tryz.underlying54 rfl (by rw [hV47]; kernel_rfl)) ?_
  rw [hd]
  exact ⟨hF.put (by decide) _, L, R, V, tot, g, A, B, fun _ => (eval_same (by omega)).trans (rfl), fun hb' => (eval_other (by decide)).trans (c1 hb'), fun hb' => (eval_other (by decide)).trans (c2 hb'), fun hb' => (eval_other (by decide)).trans (c3 hb'), fun hb' => (eval_other (by decide)).trans (c4 hb'), fun hb' => (eval_other (by decide)).trans (c5 hb'), fun hb' => (eval_other (by decide)).trans (c6 hb'), fun hb' => (eval_other (by decide)).trans (c7 hb'), fun hb' => (eval_other (by decide)).trans (c8 hb'), fun hb' => (eval_other (by decide)).trans (c9 hb'), fun hb' => (eval_other (by decide)).trans (c10 hb'), fun hb' => (eval_other (by decide)).trans (c11 hb'), fun hb' => (eval_other (by decide)).trans (c12 hb'), fun hb' => (eval_other (by decide)).trans (c13 hb'), fun hb' => (eval_other (by decide)).trans (c14 hb'), fun hb' => (eval_other (by decide)).trans (c15 hb'), fun hb' => (eval_other (by decide)).trans (c18 hb'), fun hb' => k5_4 hb', fun hb' => k8_5 hb', fun hb' => k9_8 hb', fun hb' => k10_9 hb', fun hb' => k11_10 hb', fun hb' => k12_10 hb', fun hb' => k13_10 hb', fun hb' => k16_14 hb', fun hb' => k16_9 hb', fun hb' => k17_15 hb', fun hb' => k17_9 hb', fun hb' => k18_13 hb', hAB, WI.congr rfl rfl rfl rfl rfl rfl rfl hw⟩
 ·obtain ⟨hop, hd, hg, hp⟩ := s1.get ho he
  refine wpOp_plain ho hg ?_
  refine op_move (.inl hop) ?_
  rw [hd]
  exact ⟨hF.put (by decide) _, L, R, V, tot, g, A, B, fun hb' => (eval_other (by decide)).trans (c0 hb'), fun _ => (eval_same (by omega)).trans ((hF.eval (by decide)).trans e8), fun hb' => (eval_other (by decide)).trans (c2 hb'), fun hb' => (eval_other (by decide)).trans (c3 hb'), fun hb' => (eval_other (by decide)).trans (c4 hb'), fun hb' => (eval_other (by decide)).trans (c5 hb'), fun hb' => (eval_other (by decide)).trans (c6 hb'), fun hb' => (eval_other (by decide)).trans (c7 hb'), fun hb' => (eval_other (by decide)).trans (c8 hb'), fun hb' => (eval_other (by decide)).trans (c9 hb'), fun hb' => (eval_other (by decide)).trans (c10 hb'), fun hb' => (eval_other (by decide)).trans (c11 hb'), fun hb' => (eval_other (by decide)).trans (c12 hb'), fun hb' => (eval_other (by decide)).trans (c13 hb'), fun hb' => (eval_other (by decide)).trans (c14 hb'), fun hb' => (eval_other (by decide)).trans (c15 hb'), fun hb' => (eval_other (by decide)).trans (c18 hb'), fun hb' => k5_4 hb', fun hb' => k8_5 hb', fun hb' => k9_8 hb', fun hb' => k10_9 hb', fun hb' => k11_10 hb', fun hb' => k12_10 hb', fun hb' => k13_10 hb', fun hb' => k16_14 hb', fun hb' => k16_9 hb', fun hb' => k17_15 hb', fun hb' => k17_9 hb', fun hb' => k18_13 hb', hAB, WI.congr rfl rfl rfl rfl rfl rfl rfl hw⟩
 ·obtain ⟨hop, hd, hg, hp⟩ := s2.get ho he
  have p1 := hp 1 (by simp)
  refine wpOp_plain ho hg ?_
  refine op_iface hop (by rw [c1 p1]; rfl) ?_
  rw [hd]
  exact ⟨hF.put (by decide) _, L, R, V, tot, g, A, B, fun hb' => (eval_other (by decide)).trans (c0 hb'), fun hb' => (eval_other (by decide)).trans (c1 hb'), fun _ => (eval_same (by omega)).trans (rfl), fun hb' => (eval_other (by decide)).trans (c3 hb'), fun hb' => (eval_other (by decide)).trans (c4 hb'), fun hb' => (eval_other (by decide)).trans (c5 hb'), fun hb' => (eval_other (by decide)).trans (c6 hb'), fun hb' => (eval_other (by decide)).trans (c7 hb'), fun hb' => (eval_other (by decide)).trans (c8 hb'), fun hb' => (eval_other (by decide)).trans (c9 hb'), fun hb' => (eval_other (by decide)).trans (c10 hb'), fun hb' => (eval_other (by decide)).trans (c11 hb'), fun hb' => (eval_other (by decide)).trans (c12 hb'), fun hb' => (eval_other (by decide)).trans (c13 hb'), fun hb' => (eval_other (by decide)).trans (c14 hb'), fun hb' => (eval_other (by decide)).trans (c15 hb'), fun hb' => (eval_other (by decide)).trans (c18 hb'), fun hb' => k5_4 hb', fun hb' => k8_5 hb', fun hb' => k9_8 hb', fun hb' => k10_9 hb', fun hb' => k11_10 hb', fun hb' => k12_10 hb', fun hb' => k13_10 hb', fun hb' => k16_14 hb', fun hb' => k16_9 hb', fun hb' => k17_15 hb', fun hb' => k17_9 hb', fun hb' => k18_13 hb', hAB, WI.congr rfl rfl rfl rfl rfl rfl rfl hw⟩
 ·obtain ⟨hop, hd, hg, hp⟩ := s3.get ho he
  refine wpOp_plain ho hg ?_
  refine op_move (.inl hop) ?_
  rw [hd]
  exact ⟨hF.put (by decide) _, L, R, V, tot, g, A, B, fun hb' => (eval_other (by decide)).trans (c0 hb'), fun hb' => (eval_other (by decide)).trans (c1 hb'), fun hb' => (eval_other (by decide)).trans (c2 hb'), fun _ => (eval_same (by omega)).trans ((hF.eval (by decide)).trans e1), fun hb' => (eval_other (by decide)).trans (c4 hb'), fun hb' => (eval_other (by decide)).trans (c5 hb'), fun hb' => (eval_other (by decide)).trans (c6 hb'), fun hb' => (eval_other (by decide)).trans (c7 hb'), fun hb' => (eval_other (by decide)).trans (c8 hb'), fun hb' => (eval_other (by decide)).trans (c9 hb'), fun hb' => (eval_other (by decide)).trans (c10 hb'), fun hb' => (eval_other (by decide)).trans (c11 hb'), fun hb' => (eval_other (by decide)).trans (c12 hb'), fun hb' => (eval_other (by decide)).trans (c13 hb'), fun hb' => (eval_other (by decide)).trans (c14 hb'), fun hb' => (eval_other (by decide)).trans (c15 hb'), fun hb' => (eval_other (by decide)).trans (c18 hb'), fun hb' => k5_4 hb', fun hb' => k8_5 hb', fun hb' => k9_8 hb', fun hb' => k10_9 hb', fun hb' => k11_10 hb', fun hb' => k12_10 hb', fun hb' => k13_10 hb', fun hb' => k16_14 hb', fun hb' => k16_9 hb', fun hb' => k17_15 hb', fun hb' => k17_9 hb', fun hb' => k18_13 hb', hAB, WI.congr rfl rfl rfl rfl rfl rfl rfl hw⟩
 ·obtain ⟨hop, hd, hg, hp⟩ := s4.get ho he
  have p3 := hp 3 (by simp)
  refine wpOp_plain ho hg ?_
  have n4 : ¬ b 4 = true := by simp [hb]
  have n8 : ¬ b 8 = true := fun h => n4 (k5_4 (k8_5 h))
  have n9 : ¬ b 9 = true := fun h => n8 (k9_8 h)
  rw [WI.e0 n9 n8 n4] at hw
  refine op_any (n := .enter 9 #[.slice fA fn fc]) (w' := w) (by rw [show execOp a.eval o = callFunc 9 (#[] ++ (#[.tmp 100] : Array Operand).map a.eval ++ #[]) from by unfold execOp; rw [hop]; rfl, Go.Sy.run_callFunc (Go.Sy.callable plain (by kernel_rfl))]; simp [c3 p3]) ?_
  rw [Oper.upon_enter]
  refine (wire_c hw fA fn fc fs hu hfn).mono ?_
  rintro e w' ⟨L', R', rfl, h1⟩
  rw [hft] at h1
  dsimp only
  rw [hd]
  exact ⟨hF.put (by decide) _, L', R', V, tot, g, A, B, fun hb' => (eval_other (by decide)).trans (c0 hb'), fun hb' => (eval_other (by decide)).trans (c1 hb'), fun hb' => (eval_other (by decide)).trans (c2 hb'), fun hb' => (eval_other (by decide)).trans (c3 hb'), fun _ => (eval_same (by omega)).trans (rfl), fun hb' => absurd (k5_4 hb') (by simp [hb]), fun hb' => (eval_other (by decide)).trans (c6 hb'), fun hb' => (eval_other (by decide)).trans (c7 hb'), fun hb' => (eval_other (by decide)).trans (c8 hb'), fun hb' => (eval_other (by decide)).trans (c9 hb'), fun hb' => (eval_other (by decide)).trans (c10 hb'), fun hb' => (eval_other (by decide)).trans (c11 hb'), fun hb' => (eval_other (by decide)).trans (c12 hb'), fun hb' => (eval_other (by decide)).trans (c13 hb'), fun hb' => (eval_other (by decide)).trans (c14 hb'), fun hb' => (eval_other (by decide)).trans (c15 hb'), fun hb' => (eval_other (by decide)).trans (c18 hb'), fun _ => rfl, fun hb' => k8_5 hb', fun hb' => k9_8 hb', fun hb' => k10_9 hb', fun hb' => k11_10 hb', fun hb' => k12_10 hb', fun hb' => k13_10 hb', fun hb' => k16_14 hb', fun hb' => k16_9 hb', fun hb' => k17_15 hb', fun hb' => k17_9 hb', fun hb' => k18_13 hb', hAB, (by rw [WI.e1 (b := fun j => if j = 4 then true else b j) n9 n8 rfl]; exact h1)⟩
 ·obtain ⟨hop, hd, hg, hp⟩ := s5.get ho he
  have p4 := hp 4 (by simp)
  refine wpOp_plain ho hg ?_
  refine op_iface hop (by rw [c4 p4]; rfl) ?_
  rw [hd]
  exact ⟨hF.put (by decide) _, L, R, V, tot, g, A, B, fun hb' => (eval_other (by decide)).trans (c0 hb'), fun hb' => (eval_other (by decide)).trans (c1 hb'), fun hb' => (eval_other (by decide)).trans (c2 hb'), fun hb' => (eval_other (by decide)).trans (c3 hb'), fun hb' => (eval_other (by decide)).trans (c4 hb'), fun _ => (eval_same (by omega)).trans (rfl), fun hb' => (eval_other (by decide)).trans (c6 hb'), fun hb' => (eval_other (by decide)).trans (c7 hb'), fun hb' => (eval_other (by decide)).trans (c8 hb'), fun hb' => (eval_other (by decide)).trans (c9 hb'), fun hb' => (eval_other (by decide)).trans (c10 hb'), fun hb' => (eval_other (by decide)).trans (c11 hb'), fun hb' => (eval_other (by decide)).trans (c12 hb'), fun hb' => (eval_other (by decide)).trans (c13 hb'), fun hb' => (eval_other (by decide)).trans (c14 hb'), fun hb' => (eval_other (by decide)).trans (c15 hb'), fun hb' => (eval_other (by decide)).trans (c18 hb'), fun _ => p4, fun _ => rfl, fun hb' => k9_8 hb', fun hb' => k10_9 hb', fun hb' => k11_10 hb', fun hb' => k12_10 hb', fun hb' => k13_10 hb', fun hb' => k16_14 hb', fun hb' => k16_9 hb', fun hb' => k17_15 hb', fun hb' => k17_9 hb', fun hb' => k18_13 hb', hAB, WI.congr rfl rfl rfl rfl rfl rfl rfl hw⟩
 ·obtain ⟨hop, hd, hg, hp⟩ := s6.get ho he
  refine wpOp_plain ho hg ?_
  refine op_move (.inl hop) ?_
  rw [hd]
  exact ⟨hF.put (by decide) _, L, R, V, tot, g, A, B, fun hb' => (eval_other (by decide)).trans (c0 hb'), fun hb' => (eval_other (by decide)).trans (c1 hb'), fun hb' => (eval_other (by decide)).trans (c2 hb'), fun hb' => (eval_other (by decide)).trans (c3 hb'), fun hb' => (eval_other (by decide)).trans (c4 hb'), fun hb' => (eval_other (by decide)).trans (c5 hb'), fun _ => (eval_same (by omega)).trans ((hF.eval (by decide)).trans e0), fun hb' => (eval_other (by decide)).trans (c7 hb'), fun hb' => (eval_other (by decide)).trans (c8 hb'), fun hb' => (eval_other (by decide)).trans (c9 hb'), fun hb' => (eval_other (by decide)).trans (c10 hb'), fun hb' => (eval_other (by decide)).trans (c11 hb'), fun hb' => (eval_other (by decide)).trans (c12 hb'), fun hb' => (eval_other (by decide)).trans (c13 hb'), fun hb' => (eval_other (by decide)).trans (c14 hb'), fun hb' => (eval_other (by decide)).trans (c15 hb'), fun hb' => (eval_other (by decide)).trans (c18 hb'), fun hb' => k5_4 hb', fun hb' => k8_5 hb', fun hb' => k9_8 hb', fun hb' => k10_9 hb', fun hb' => k11_10 hb', fun hb' => k12_10 hb', fun hb' => k13_10 hb', fun hb' => k16_14 hb', fun hb' => k16_9 hb', fun hb' => k17_15 hb', fun hb' => k17_9 hb', fun hb' => k18_13 hb', hAB, WI.congr rfl rfl rfl rfl rfl rfl rfl hw⟩
 ·obtain ⟨hop, hd, hg, hp⟩ := s7.get ho he
  have p6 := hp 6 (by simp)
  refine wpOp_plain ho hg ?_
  refine op_any (n := .value (.int .i64 (ln : Int))) (w' := w) (by unfold execOp; simp only [hop]; simp [c6 p6, resolve, invoke, builtin, Builtin.len_, Sem.run_bind, hgi]) ?_
  rw [Oper.upon_value, hd]
  exact ⟨hF.put (by decide) _, L, R, V, tot, g, A, B, fun hb' => (eval_other (by decide)).trans (c0 hb'), fun hb' => (eval_other (by decide)).trans (c1 hb'), fun hb' => (eval_other (by decide)).trans (c2 hb'), fun hb' => (eval_other (by decide)).trans (c3 hb'), fun hb' => (eval_other (by decide)).trans (c4 hb'), fun hb' => (eval_other (by decide)).trans (c5 hb'), fun hb' => (eval_other (by decide)).trans (c6 hb'), fun _ => (eval_same (by omega)).trans (rfl), fun hb' => (eval_other (by decide)).trans (c8 hb'), fun hb' => (eval_other (by decide)).trans (c9 hb'), fun hb' => (eval_other (by decide)).trans (c10 hb'), fun hb' => (eval_other (by decide)).trans (c11 hb'), fun hb' => (eval_other (by decide)).trans (c12 hb'), fun hb' => (eval_other (by decide)).trans (c13 hb'), fun hb' => (eval_other (by decide)).trans (c14 hb'), fun hb' => (eval_other (by decide)).trans (c15 hb'), fun hb' => (eval_other (by decide)).trans (c18 hb'), fun hb' => k5_4 hb', fun hb' => k8_5 hb', fun hb' => k9_8 hb', fun hb' => k10_9 hb', fun hb' => k11_10 hb', fun hb' => k12_10 hb', fun hb' => k13_10 hb', fun hb' => k16_14 hb', fun hb' => k16_9 hb', fun hb' => k17_15 hb', fun hb' => k17_9 hb', fun hb' => k18_13 hb', hAB, WI.congr rfl rfl rfl rfl rfl rfl rfl hw⟩
 ·obtain ⟨hop, hd, hg, hp⟩ := s8.get ho he
  have p0 := hp 0 (by simp)
  have p2 := hp 2 (by simp)
  have p5 := hp 5 (by simp)
  have p7 := hp 7 (by simp)
  refine wpOp_plain ho hg ?_
  have n8 : ¬ b 8 = true := by simp [hb]
  have n9 : ¬ b 9 = true := fun h => n8 (k9_8 h)
  rw [WI.e1 n9 n8 (k5_4 p5)] at hw
  refine op_any (n := .enter 12 #[.agg V0, .iface 32 (.pointer (some ⟨G, 0, none⟩)), .iface 35 (.pointer (some ⟨L, 0, none⟩)), .int .i64 (ln : Int)]) (w' := w) (by rw [show execOp a.eval o = callFunc 12 (#[] ++ (#[.tmp 97, .tmp 99, .tmp 102, .tmp 104] : Array Operand).map a.eval ++ #[]) from by unfold execOp; rw [hop]; rfl, Go.Sy.run_callFunc (Go.Sy.callable plain (by kernel_rfl))]; simp [c0 p0, c2 p2, c5 p5, c7 p7]) ?_
  rw [Oper.upon_enter]
  refine (hrun w _ L R hw).mono ?_
  rintro e w' ⟨V', rfl, h2⟩
  dsimp only
  rw [hd]
  exact ⟨hF.put (by decide) _, L, R, V', tot, g, A, B, fun hb' => (eval_other (by decide)).trans (c0 hb'), fun hb' => (eval_other (by decide)).trans (c1 hb'), fun hb' => (eval_other (by decide)).trans (c2 hb'), fun hb' => (eval_other (by decide)).trans (c3 hb'), fun hb' => (eval_other (by decide)).trans (c4 hb'), fun hb' => (eval_other (by decide)).trans (c5 hb'), fun hb' => (eval_other (by decide)).trans (c6 hb'), fun hb' => (eval_other (by decide)).trans (c7 hb'), fun _ => (eval_same (by omega)).trans (rfl), fun hb' => (eval_other (by decide)).trans (c9 hb'), fun hb' => (eval_other (by decide)).trans (c10 hb'), fun hb' => (eval_other (by decide)).trans (c11 hb'), fun hb' => (eval_other (by decide)).trans (c12 hb'), fun hb' => (eval_other (by decide)).trans (c13 hb'), fun hb' => (eval_other (by decide)).trans (c14 hb'), fun hb' => (eval_other (by decide)).trans (c15 hb'), fun hb' => (eval_other (by decide)).trans (c18 hb'), fun hb' => k5_4 hb', fun _ => p5, fun _ => rfl, fun hb' => k10_9 hb', fun hb' => k11_10 hb', fun hb' => k12_10 hb', fun hb' => k13_10 hb', fun hb' => k16_14 hb', fun hb' => k16_9 hb', fun hb' => k17_15 hb', fun hb' => k17_9 hb', fun hb' => k18_13 hb', hAB, (by rw [WI.e2 (b := fun j => if j = 8 then true else b j) n9 rfl]; exact h2)⟩
 ·obtain ⟨hop, hd, hg, hp⟩ := s9.get ho he
  have p8 := hp 8 (by simp)
  refine wpOp_plain ho hg ?_
  have n9 : ¬ b 9 = true := by simp [hb]
  rw [WI.e2 n9 p8] at hw
  refine op_any (n := .enter 17 #[.agg V]) (w' := w) (by rw [show execOp a.eval o = callFunc 17 (#[] ++ (#[.tmp 105] : Array Operand).map a.eval ++ #[]) from by unfold execOp; rw [hop]; rfl, Go.Sy.run_callFunc (Go.Sy.callable plain (by kernel_rfl))]; simp [c8 p8]) ?_
  rw [Oper.upon_enter]
  refine (end_c hw hl).mono ?_
  rintro e w' ⟨tot', g', rfl, h3⟩
  dsimp only
  rw [hd]
  have hbx : boxes inn ln (fun j => if j = 9 then true else b j) tot' g' A B = boxes inn ln b tot g A B := boxes_eq rfl rfl rfl rfl (fun h => absurd (k16_9 h) n9)
  rw [← hbx] at h3
  exact ⟨hF.put (by decide) _, L, R, V, tot', g', A, B, fun hb' => (eval_other (by decide)).trans (c0 hb'), fun hb' => (eval_other (by decide)).trans (c1 hb'), fun hb' => (eval_other (by decide)).trans (c2 hb'), fun hb' => (eval_other (by decide)).trans (c3 hb'), fun hb' => (eval_other (by decide)).trans (c4 hb'), fun hb' => (eval_other (by decide)).trans (c5 hb'), fun hb' => (eval_other (by decide)).trans (c6 hb'), fun hb' => (eval_other (by decide)).trans (c7 hb'), fun hb' => (eval_other (by decide)).trans (c8 hb'), fun _ => (eval_same (by omega)).trans (rfl), fun hb' => absurd (k10_9 hb') (by simp [hb]), fun hb' => absurd (k10_9 (k11_10 hb')) (by simp [hb]), fun hb' => absurd (k10_9 (k12_10 hb')) (by simp [hb]), fun hb' => absurd (k10_9 (k13_10 hb')) (by simp [hb]), fun hb' => (eval_other (by decide)).trans (c14 hb'), fun hb' => (eval_other (by decide)).trans (c15 hb'), fun hb' => (eval_other (by decide)).trans (c18 hb'), fun hb' => k5_4 hb', fun hb' => k8_5 hb', fun _ => p8, fun _ => rfl, fun hb' => k11_10 hb', fun hb' => k12_10 hb', fun hb' => k13_10 hb', fun hb' => k16_14 hb', fun _ => rfl, fun hb' => k17_15 hb', fun _ => rfl, fun hb' => k18_13 hb', hAB, (by rw [WI.e3 (b := fun j => if j = 9 then true else b j) rfl]; exact h3)⟩
 ·obtain ⟨hop, hd, hg, hp⟩ := s10.get ho he
  have p9 := hp 9 (by simp)
  refine wpOp_plain ho hg ?_
  refine op_move (.inl hop) ?_
  rw [hd]
  exact ⟨hF.put (by decide) _, L, R, V, tot, g, A, B, fun hb' => (eval_other (by decide)).trans (c0 hb'), fun hb' => (eval_other (by decide)).trans (c1 hb'), fun hb' => (eval_other (by decide)).trans (c2 hb'), fun hb' => (eval_other (by decide)).trans (c3 hb'), fun hb' => (eval_other (by decide)).trans (c4 hb'), fun hb' => (eval_other (by decide)).trans (c5 hb'), fun hb' => (eval_other (by decide)).trans (c6 hb'), fun hb' => (eval_other (by decide)).trans (c7 hb'), fun hb' => (eval_other (by decide)).trans (c8 hb'), fun hb' => (eval_other (by decide)).trans (c9 hb'), fun _ => (eval_same (by omega)).trans (c9 p9), fun hb' => (eval_other (by decide)).trans (c11 hb'), fun hb' => (eval_other (by decide)).trans (c12 hb'), fun hb' => (eval_other (by decide)).trans (c13 hb'), fun hb' => (eval_other (by decide)).trans (c14 hb'), fun hb' => (eval_other (by decide)).trans (c15 hb'), fun hb' => (eval_other (by decide)).trans (c18 hb'), fun hb' => k5_4 hb', fun hb' => k8_5 hb', fun hb' => k9_8 hb', fun _ => p9, fun _ => rfl, fun _ => rfl, fun _ => rfl, fun hb' => k16_14 hb', fun hb' => k16_9 hb', fun hb' => k17_15 hb', fun hb' => k17_9 hb', fun hb' => k18_13 hb', hAB, WI.congr rfl rfl rfl rfl rfl rfl rfl hw⟩
 ·obtain ⟨hop, hd, hg, hp⟩ := s11.get ho he
  have p10 := hp 10 (by simp)
  refine wpOp_plain ho hg ?_
  refine op_any (n := .value (.agg (end4 tot g ln))) (by unfold execOp; simp only [hop]; rw [c10 p10]; rfl) ?_
  rw [Oper.upon_value, hd]
  exact ⟨hF.put (by decide) _, L, R, V, tot, g, A, B, fun hb' => (eval_other (by decide)).trans (c0 hb'), fun hb' => (eval_other (by decide)).trans (c1 hb'), fun hb' => (eval_other (by decide)).trans (c2 hb'), fun hb' => (eval_other (by decide)).trans (c3 hb'), fun hb' => (eval_other (by decide)).trans (c4 hb'), fun hb' => (eval_other (by decide)).trans (c5 hb'), fun hb' => (eval_other (by decide)).trans (c6 hb'), fun hb' => (eval_other (by decide)).trans (c7 hb'), fun hb' => (eval_other (by decide)).trans (c8 hb'), fun hb' => (eval_other (by decide)).trans (c9 hb'), fun hb' => (eval_other (by decide)).trans (c10 hb'), fun _ => (eval_same (by omega)).trans (rfl), fun hb' => (eval_other (by decide)).trans (c12 hb'), fun hb' => (eval_other (by decide)).trans (c13 hb'), fun hb' => (eval_other (by decide)).trans (c14 hb'), fun hb' => (eval_other (by decide)).trans (c15 hb'), fun hb' => (eval_other (by decide)).trans (c18 hb'), fun hb' => k5_4 hb', fun hb' => k8_5 hb', fun hb' => k9_8 hb', fun hb' => k10_9 hb', fun _ => p10, fun hb' => k12_10 hb', fun hb' => k13_10 hb', fun hb' => k16_14 hb', fun hb' => k16_9 hb', fun hb' => k17_15 hb', fun hb' => k17_9 hb', fun hb' => k18_13 hb', hAB, WI.congr rfl rfl rfl rfl rfl rfl rfl hw⟩
 ·obtain ⟨hop, hd, hg, hp⟩ := s12.get ho he
  have p10 := hp 10 (by simp)
  refine wpOp_plain ho hg ?_
  refine op_any (n := .value (.agg (pCells inn))) (by unfold execOp; simp only [hop]; rw [c10 p10]; rfl) ?_
  rw [Oper.upon_value, hd]
  exact ⟨hF.put (by decide) _, L, R, V, tot, g, A, B, fun hb' => (eval_other (by decide)).trans (c0 hb'), fun hb' => (eval_other (by decide)).trans (c1 hb'), fun hb' => (eval_other (by decide)).trans (c2 hb'), fun hb' => (eval_other (by decide)).trans (c3 hb'), fun hb' => (eval_other (by decide)).trans (c4 hb'), fun hb' => (eval_other (by decide)).trans (c5 hb'), fun hb' => (eval_other (by decide)).trans (c6 hb'), fun hb' => (eval_other (by decide)).trans (c7 hb'), fun hb' => (eval_other (by decide)).trans (c8 hb'), fun hb' => (eval_other (by decide)).trans (c9 hb'), fun hb' => (eval_other (by decide)).trans (c10 hb'), fun hb' => (eval_other (by decide)).trans (c11 hb'), fun _ => (eval_same (by omega)).trans (rfl), fun hb' => (eval_other (by decide)).trans (c13 hb'), fun hb' => (eval_other (by decide)).trans (c14 hb'), fun hb' => (eval_other (by decide)).trans (c15 hb'), fun hb' => (eval_other (by decide)).trans (c18 hb'), fun hb' => k5_4 hb', fun hb' => k8_5 hb', fun hb' => k9_8 hb', fun hb' => k10_9 hb', fun hb' => k11_10 hb', fun _ => p10, fun hb' => k13_10 hb', fun hb' => k16_14 hb', fun hb' => k16_9 hb', fun hb' => k17_15 hb', fun hb' => k17_9 hb', fun hb' => k18_13 hb', hAB, WI.congr rfl rfl rfl rfl rfl rfl rfl hw⟩
 ·obtain ⟨hop, hd, hg, hp⟩ := s13.get ho he
  have p10 := hp 10 (by simp)
  refine wpOp_plain ho hg ?_
  refine op_any (n := .value (.bool true)) (by unfold execOp; simp only [hop]; rw [c10 p10]; rfl) ?_
  rw [Oper.upon_value, hd]
  exact ⟨hF.put (by decide) _, L, R, V, tot, g, A, B, fun hb' => (eval_other (by decide)).trans (c0 hb'), fun hb' => (eval_other (by decide)).trans (c1 hb'), fun hb' => (eval_other (by decide)).trans (c2 hb'), fun hb' => (eval_other (by decide)).trans (c3 hb'), fun hb' => (eval_other (by decide)).trans (c4 hb'), fun hb' => (eval_other (by decide)).trans (c5 hb'), fun hb' => (eval_other (by decide)).trans (c6 hb'), fun hb' => (eval_other (by decide)).trans (c7 hb'), fun hb' => (eval_other (by decide)).trans (c8 hb'), fun hb' => (eval_other (by decide)).trans (c9 hb'), fun hb' => (eval_other (by decide)).trans (c10 hb'), fun hb' => (eval_other (by decide)).trans (c11 hb'), fun hb' => (eval_other (by decide)).trans (c12 hb'), fun _ => (eval_same (by omega)).trans (rfl), fun hb' => (eval_other (by decide)).trans (c14 hb'), fun hb' => (eval_other (by decide)).trans (c15 hb'), fun hb' => (eval_other (by decide)).trans (c18 hb'), fun hb' => k5_4 hb', fun hb' => k8_5 hb', fun hb' => k9_8 hb', fun hb' => k10_9 hb', fun hb' => k11_10 hb', fun hb' => k12_10 hb', fun _ => p10, fun hb' => k16_14 hb', fun hb' => k16_9 hb', fun hb' => k17_15 hb', fun hb' => k17_9 hb', fun _ => rfl, hAB, WI.congr rfl rfl rfl rfl rfl rfl rfl hw⟩
 ·obtain ⟨hop, hd, hg, hp⟩ := s14.get ho he
  refine wpOp_plain ho hg ?_
  have hlt : b 15 = true → B < w.heap.size := fun h => hw.has.lt (boxB h)
  have n16 : ¬ b 16 = true := fun h => by have := k16_14 h; rw [hb] at this; cases this
  have hw' := hw.alloc (b' := fun j => if j = 14 then true else b j) (A' := w.heap.size) (B' := B) (.cells z4 60 (0, 0)) rfl rfl rfl (fun p hp => by
   rcases box_cases hp with ⟨h, e⟩ | ⟨h, e⟩
   ·rw [e, show (if (fun j => if j = 14 then true else b j) 16 = true then end4 tot g ln else z4) = z4 from if_neg n16]; exact List.mem_cons_self ..
   ·rw [e]; exact List.mem_cons_of_mem _ (boxB h))
  refine op_alloc (v := .pointer (some ⟨w.heap.size, 0, none⟩)) (w' := w.alloc (.cells z4 60 (0, 0))) hop (by rfl) ?_
  rw [hd]
  exact ⟨hF.put (by decide) _, L, R, V, tot, g, w.heap.size, B, fun hb' => (eval_other (by decide)).trans (c0 hb'), fun hb' => (eval_other (by decide)).trans (c1 hb'), fun hb' => (eval_other (by decide)).trans (c2 hb'), fun hb' => (eval_other (by decide)).trans (c3 hb'), fun hb' => (eval_other (by decide)).trans (c4 hb'), fun hb' => (eval_other (by decide)).trans (c5 hb'), fun hb' => (eval_other (by decide)).trans (c6 hb'), fun hb' => (eval_other (by decide)).trans (c7 hb'), fun hb' => (eval_other (by decide)).trans (c8 hb'), fun hb' => (eval_other (by decide)).trans (c9 hb'), fun hb' => (eval_other (by decide)).trans (c10 hb'), fun hb' => (eval_other (by decide)).trans (c11 hb'), fun hb' => (eval_other (by decide)).trans (c12 hb'), fun hb' => (eval_other (by decide)).trans (c13 hb'), fun _ => (eval_same (by omega)).trans (rfl), fun hb' => (eval_other (by decide)).trans (c15 hb'), fun hb' => (eval_other (by decide)).trans (c18 hb'), fun hb' => k5_4 hb', fun hb' => k8_5 hb', fun hb' => k9_8 hb', fun hb' => k10_9 hb', fun hb' => k11_10 hb', fun hb' => k12_10 hb', fun hb' => k13_10 hb', fun _ => rfl, fun hb' => k16_9 hb', fun hb' => k17_15 hb', fun hb' => k17_9 hb', fun hb' => k18_13 hb', fun _ h => by have := hlt h; omega, hw'⟩
 ·obtain ⟨hop, hd, hg, hp⟩ := s15.get ho he
  refine wpOp_plain ho hg ?_
  have hlt : b 14 = true → A < w.heap.size := fun h => hw.has.lt (boxA h)
  have n17 : ¬ b 17 = true := fun h => by have := k17_15 h; rw [hb] at this; cases this
  have hw' := hw.alloc (b' := fun j => if j = 15 then true else b j) (A' := A) (B' := w.heap.size) (.cells z11 30 (0, 0)) rfl rfl rfl (fun p hp => by
   rcases box_cases hp with ⟨h, e⟩ | ⟨h, e⟩
   ·rw [e]; exact List.mem_cons_of_mem _ (boxA h)
   ·rw [e, show (if (fun j => if j = 15 then true else b j) 17 = true then pCells inn else z11) = z11 from if_neg n17]; exact List.mem_cons_self ..)
  refine op_alloc (v := .pointer (some ⟨w.heap.size, 0, none⟩)) (w' := w.alloc (.cells z11 30 (0, 0))) hop (by rfl) ?_
  rw [hd]
  exact ⟨hF.put (by decide) _, L, R, V, tot, g, A, w.heap.size, fun hb' => (eval_other (by decide)).trans (c0 hb'), fun hb' => (eval_other (by decide)).trans (c1 hb'), fun hb' => (eval_other (by decide)).trans (c2 hb'), fun hb' => (eval_other (by decide)).trans (c3 hb'), fun hb' => (eval_other (by decide)).trans (c4 hb'), fun hb' => (eval_other (by decide)).trans (c5 hb'), fun hb' => (eval_other (by decide)).trans (c6 hb'), fun hb' => (eval_other (by decide)).trans (c7 hb'), fun hb' => (eval_other (by decide)).trans (c8 hb'), fun hb' => (eval_other (by decide)).trans (c9 hb'), fun hb' => (eval_other (by decide)).trans (c10 hb'), fun hb' => (eval_other (by decide)).trans (c11 hb'), fun hb' => (eval_other (by decide)).trans (c12 hb'), fun hb' => (eval_other (by decide)).trans (c13 hb'), fun hb' => (eval_other (by decide)).trans (c14 hb'), fun _ => (eval_same (by omega)).trans (rfl), fun hb' => (eval_other (by decide)).trans (c18 hb'), fun hb' => k5_4 hb', fun hb' => k8_5 hb', fun hb' => k9_8 hb', fun hb' => k10_9 hb', fun hb' => k11_10 hb', fun hb' => k12_10 hb', fun hb' => k13_10 hb', fun hb' => k16_14 hb', fun hb' => k16_9 hb', fun _ => rfl, fun hb' => k17_9 hb', fun hb' => k18_13 hb', fun h _ => by have := hlt h; omega, hw'⟩
 ·obtain ⟨hop, hd, hg, hp⟩ := s16.get ho he
  have p14 := hp 14 (by simp)
  have p11 := hp 11 (by simp)
  have p9 := hp 9 (by simp)
  refine wpOp_plain ho hg ?_
  have n16 : ¬ b 16 = true := by simp [hb]
  have hh := hw.has _ (boxA p14)
  rw [if_neg n16] at hh
  rw [WI.e3 p9] at hw
  have hXg := hw.2.2.choose_spec.choose_spec.choose_spec.choose_spec.2.2.2.2.2.2.1 _ (boxA p14)
  have hrow : (z4.toList.take 0 ++ (end4 tot g ln).toList ++ z4.toList.drop (0 + (end4 tot g ln).size)).toArray = end4 tot g ln := row_same rfl
  have hst := run_storeAt_row (P := Tryz.prog) (ty := 60) (off := 0) (vals := end4 tot g ln) hh.1 (by kernel_rfl) (Nat.le_refl 4) rfl
  rw [hrow] at hst
  have hnew := setRow_heap w A _ (end4 tot g ln) _ _ hh.1
  have hWr := Wrote.setRow A w (end4 tot g ln)
  refine op_store (w' := w.setRow A (end4 tot g ln)) hop (by rw [c14 p14, c11 p11]; exact hst) ?_
  rw [hd]
  have hbx : ∀ p ∈ boxes inn ln (fun j => if j = 16 then true else b j) tot g A B, (p = (A, Obj.cells (end4 tot g ln) 60 (0, 0))) ∨ (b 15 = true ∧ p = (B, Obj.cells (if b 17 = true then pCells inn else z11) 30 (0, 0))) := by
   intro p hp
   rcases box_cases hp with ⟨h, e⟩ | ⟨h, e⟩
   ·exact .inl e
   ·exact .inr ⟨h, e⟩
  have hw3 := hw.store (bs' := boxes inn ln (fun j => if j = 16 then true else b j) tot g A B) hh.1 (by decide) hh.2 hXg hG hWr (fun p hp => by
   rcases hbx p hp with e | ⟨h, e⟩
   ·rw [e]; exact ⟨hnew, hh.2⟩
   ·have hy := hw.2.1 _ (boxB h)
    rw [e]
    exact ⟨(hWr.other _ (Ne.symm (hAB p14 h))).trans hy.1, hy.2⟩) (fun p hp => by
   rcases hbx p hp with e | ⟨h, e⟩
   ·rw [e]; exact hXg
   ·rw [e]; exact hw.2.2.choose_spec.choose_spec.choose_spec.choose_spec.2.2.2.2.2.2.1 _ (boxB h))
  exact ⟨hF.put0 _, L, R, V, tot, g, A, B, fun hb' => c0 hb', fun hb' => c1 hb', fun hb' => c2 hb', fun hb' => c3 hb', fun hb' => c4 hb', fun hb' => c5 hb', fun hb' => c6 hb', fun hb' => c7 hb', fun hb' => c8 hb', fun hb' => c9 hb', fun hb' => c10 hb', fun hb' => c11 hb', fun hb' => c12 hb', fun hb' => c13 hb', fun hb' => c14 hb', fun hb' => c15 hb', fun hb' => c18 hb', fun hb' => k5_4 hb', fun hb' => k8_5 hb', fun hb' => k9_8 hb', fun hb' => k10_9 hb', fun hb' => k11_10 hb', fun hb' => k12_10 hb', fun hb' => k13_10 hb', fun _ => p14, fun _ => p9, fun hb' => k17_15 hb', fun hb' => k17_9 hb', fun hb' => k18_13 hb', hAB, (by rw [WI.e3 (b := fun j => if j = 16 then true else b j) p9]; exact hw3)⟩
 ·obtain ⟨hop, hd, hg, hp⟩ := s17.get ho he
  have p15 := hp 15 (by simp)
  have p12 := hp 12 (by simp)
  have p9 := hp 9 (by simp)
  refine wpOp_plain ho hg ?_
  have n17 : ¬ b 17 = true := by simp [hb]
  have hh := hw.has _ (boxB p15)
  rw [if_neg n17] at hh
  rw [WI.e3 p9] at hw
  have hXg := hw.2.2.choose_spec.choose_spec.choose_spec.choose_spec.2.2.2.2.2.2.1 _ (boxB p15)
  have hrow : (z11.toList.take 0 ++ (pCells inn).toList ++ z11.toList.drop (0 + (pCells inn).size)).toArray = pCells inn := row_same rfl
  have hst := run_storeAt_row (P := Tryz.prog) (ty := 30) (off := 0) (vals := pCells inn) hh.1 (by kernel_rfl) (Nat.le_refl 11) rfl
  rw [hrow] at hst
  have hnew := setRow_heap w B _ (pCells inn) _ _ hh.1
  have hWr := Wrote.setRow B w (pCells inn)
  refine op_store (w' := w.setRow B (pCells inn)) hop (by rw [c15 p15, c12 p12]; exact hst) ?_
  rw [hd]
  have hbx : ∀ p ∈ boxes inn ln (fun j => if j = 17 then true else b j) tot g A B, (p = (B, Obj.cells (pCells inn) 30 (0, 0))) ∨ (b 14 = true ∧ p = (A, Obj.cells (if b 16 = true then end4 tot g ln else z4) 60 (0, 0))) := by
   intro p hp
   rcases box_cases hp with ⟨h, e⟩ | ⟨h, e⟩
   ·exact .inr ⟨h, e⟩
   ·exact .inl e
  have hw3 := hw.store (bs' := boxes inn ln (fun j => if j = 17 then true else b j) tot g A B) hh.1 (by decide) hh.2 hXg hG hWr (fun p hp => by
   rcases hbx p hp with e | ⟨h, e⟩
   ·rw [e]; exact ⟨hnew, hh.2⟩
   ·have hy := hw.2.1 _ (boxA h)
    rw [e]
    exact ⟨(hWr.other _ (hAB h p15)).trans hy.1, hy.2⟩) (fun p hp => by
   rcases hbx p hp with e | ⟨h, e⟩
   ·rw [e]; exact hXg
   ·rw [e]; exact hw.2.2.choose_spec.choose_spec.choose_spec.choose_spec.2.2.2.2.2.2.1 _ (boxA h))
  exact ⟨hF.put0 _, L, R, V, tot, g, A, B, fun hb' => c0 hb', fun hb' => c1 hb', fun hb' => c2 hb', fun hb' => c3 hb', fun hb' => c4 hb', fun hb' => c5 hb', fun hb' => c6 hb', fun hb' => c7 hb', fun hb' => c8 hb', fun hb' => c9 hb', fun hb' => c10 hb', fun hb' => c11 hb', fun hb' => c12 hb', fun hb' => c13 hb', fun hb' => c14 hb', fun hb' => c15 hb', fun hb' => c18 hb', fun hb' => k5_4 hb', fun hb' => k8_5 hb', fun hb' => k9_8 hb', fun hb' => k10_9 hb', fun hb' => k11_10 hb', fun hb' => k12_10 hb', fun hb' => k13_10 hb', fun hb' => k16_14 hb', fun hb' => k16_9 hb', fun _ => p15, fun _ => p9, fun hb' => k18_13 hb', hAB, (by rw [WI.e3 (b := fun j => if j = 17 then true else b j) p9]; exact hw3)⟩
 ·obtain ⟨hop, hd, hg, hp⟩ := s18.get ho he
  have p13 := hp 13 (by simp)
  refine wpOp_plain ho hg ?_
  refine op_move (.inr hop) ?_
  rw [hd]
  exact ⟨hF.put (by decide) _, L, R, V, tot, g, A, B, fun hb' => (eval_other (by decide)).trans (c0 hb'), fun hb' => (eval_other (by decide)).trans (c1 hb'), fun hb' => (eval_other (by decide)).trans (c2 hb'), fun hb' => (eval_other (by decide)).trans (c3 hb'), fun hb' => (eval_other (by decide)).trans (c4 hb'), fun hb' => (eval_other (by decide)).trans (c5 hb'), fun hb' => (eval_other (by decide)).trans (c6 hb'), fun hb' => (eval_other (by decide)).trans (c7 hb'), fun hb' => (eval_other (by decide)).trans (c8 hb'), fun hb' => (eval_other (by decide)).trans (c9 hb'), fun hb' => (eval_other (by decide)).trans (c10 hb'), fun hb' => (eval_other (by decide)).trans (c11 hb'), fun hb' => (eval_other (by decide)).trans (c12 hb'), fun hb' => (eval_other (by decide)).trans (c13 hb'), fun hb' => (eval_other (by decide)).trans (c14 hb'), fun hb' => (eval_other (by decide)).trans (c15 hb'), fun _ => (eval_same (by omega)).trans (c13 p13), fun hb' => k5_4 hb', fun hb' => k8_5 hb', fun hb' => k9_8 hb', fun hb' => k10_9 hb', fun hb' => k11_10 hb', fun hb' => k12_10 hb', fun hb' => k13_10 hb', fun hb' => k16_14 hb', fun hb' => k16_9 hb', fun hb' => k17_15 hb', fun hb' => k17_9 hb', fun _ => p13, hAB, WI.congr rfl rfl rfl rfl rfl rfl rfl hw⟩
end Go.Proofs.YtiajboiobjfcoaaGreatDoor
