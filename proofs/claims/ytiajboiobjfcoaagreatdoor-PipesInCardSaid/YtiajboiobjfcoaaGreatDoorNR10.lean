/-
  What is proved here: what the last region of pipes.Stop does for a stream IN, whatever the order of its operations.
  Conditions: what the cells that it reads hold.
-/
import Derived.Test.YtiajboiobjfcoaaGreatDoorNPend
import Derived.Test.YtiajboiobjfcoaaGreatDoorOR14
namespace Go.Proofs.YtiajboiobjfcoaaGreatDoor
open Go.Proofs Go.RowKit
def SpG (ops : Array Oper) (i j d s : Nat) : Prop := ∃ o, ops[i]? = some o ∧ o.dst = some d ∧ o.guard = some (j, true) ∧ (ops[j]?).bind (·.dst) = some s ∧ (o.after.toList.any fun e => (e.on == j) && Region.binds .any e) = true
theorem SpG.get {ops : Array Oper} {i j d s : Nat} (h : SpG ops i j d s) {o : Oper} (ho : ops[i]? = some o) {b : Nat → Bool} (he : ∀ e ∈ o.after, Region.binds .any e = true → b e.on = true) : o.dst = some d ∧ o.guard = some (j, true) ∧ (ops[j]?).bind (·.dst) = some s ∧ b j = true := by
 obtain ⟨o', h1, h2, h3, h4, h5⟩ := h
 rw [ho] at h1
 obtain rfl := Option.some.inj h1
 refine ⟨h2, h3, h4, ?_⟩
 obtain ⟨e, he1, he2⟩ := List.any_eq_true.1 h5
 rw [Bool.and_eq_true, beq_iff_eq] at he2
 rw [← he2.1]
 exact he e (by simpa using he1) he2.2
theorem wpOp_skip {P : Program} {ops : Array Oper} {Q : Exit → Act → World → Prop} {i j d s : Nat} {K : Act → World → Prop} {a : Act} {w : World} {o : Oper} (ho : ops[i]? = some o) (hd : o.dst = some d) (hg : o.guard = some (j, true)) (hs : (ops[j]?).bind (·.dst) = some s) (hlt : s < a.tmps.size) (hv : a.eval (.tmp s) = .bool false) (h : K (a.put (some d) undef) w) : wpOp P ops Q i K a w := by
 unfold wpOp
 simp only [ho]
 have hv' : a.tmps[s]? = some (.bool false) := by
  have e : a.tmps.getD s undef = .bool false := hv
  rw [Array.getElem?_eq_getElem hlt, ← e]
  simp [Array.getD, hlt]
 have hy : yielded ops a.tmps j = some false := by
  unfold yielded
  rw [hs]
  simp only [Option.bind_some, hv']
 have hw : Region.wanted o (yielded ops a.tmps) = false := by simp [Region.wanted, hg, hy]
 rw [if_neg (by rw [hw]; decide), hd]
 exact h
section
variable {P : Program} {o : Oper} {a : Act} {w : World} {K : Act → World → Prop} {Q : Exit → Act → World → Prop}
theorem op_fieldS {s : TypeId} {x : Operand} {f : Nat} {v : Value} (ho : o.op = .fieldAddr s x f) (hv : (Instr.fieldAt s (a.eval x) f).run P w = .ok v w) (h : K (a.put o.dst v) w) : o.wp P a w K Q := by
 unfold Oper.wp execOp
 simp only [ho, Sem.run_bind, hv, Result.andThen_ok, Sem.run_pure, Oper.upon_value]
 exact h
end
def WS (ptg btg : Bool) (P : Nat) (w7 w : World) (b : Nat → Bool) : Prop := Below P w7 w ∧ (∀ i, P < i → i < w7.heap.size → w.heap[i]? = w7.heap[i]?) ∧ w.heap[P]? = some (.cells #[.int .u8 5, .int .u8 2, .bool true, .int .u8 2, .int .i64 8, .int .i64 0, .int .u8 1, .int .u8 0, .int .u8 1, .bool (if b 13 = true then btg else ptg), .bool false] 30 (0, 0))
def J10 (ptg btg : Bool) (len : Int) (DA : Option Addr) (dn dc : Nat) (act er e : Int) (a0 : Act) (X P : Nat) (w7 : World) (b : Nat → Bool) (a : Act) (w : World) : Prop :=
 Fr [45, 46, 47, 48, 49, 50, 51, 52, 53, 54, 55, 56, 57, 58] a0 a ∧ (b 0 = true → a.eval (.tmp 45) = .pointer (some ⟨X, 25, none⟩)) ∧ (b 1 = true → a.eval (.tmp 46) = .agg #[.bool true, .int .u8 2, .int .i64 8, .bool btg, .slice none 0 0, .bool false, .int .i64 len, .slice none 0 0, .slice DA dn dc, .int .i64 act, .int .i64 er, .bool false, .int .i64 e]) ∧ (b 2 = true → a.eval (.tmp 47) = .bool btg) ∧ (b 3 = true → a.eval (.tmp 48) = .pointer (some ⟨P, 2, none⟩)) ∧ (b 4 = true → a.eval (.tmp 49) = .bool true) ∧ (b 5 = true → a.eval (.tmp 50) = .bool false) ∧ (b 6 = true → a.eval (.tmp 51) = .bool false) ∧ (b 11 = true → a.eval (.tmp 56) = .bool false) ∧ (b 12 = true → a.eval (.tmp 57) = .pointer (some ⟨P, 9, none⟩)) ∧ (b 14 = true → a.eval (.tmp 58) = .pointer (some ⟨P, 10, none⟩)) ∧ WS ptg btg P w7 w b
set_option maxHeartbeats 4000000 in
set_option maxRecDepth 1000000 in
theorem r10s {ops : Array Oper} {Q : Exit → Act → World → Prop} {id : Nat} {a0 : Act} {w7 : World} {X P : Nat} (ptg btg : Bool) (len : Int) (DA : Option Addr) (dn dc : Nat) (act er e : Int) (IA : Option Addr) (im ic : Nat)
  (hback : edgesBack ops = true) (hn : ops.size = 16)
  (s0 : Sp ops 0 (.fieldAddr 54 (.tmp 1) 3) (some 45) [])
  (s1 : Sp ops 1 (.load 47 (.tmp 45)) (some 46) [0])
  (s2 : Sp ops 2 (.call { callee := .value (.func 29), args := #[.tmp 46], argTypes := #[47] }) (some 47) [1])
  (s3 : Sp ops 3 (.fieldAddr 30 (.tmp 7) 2) (some 48) [])
  (s4 : Sp ops 4 (.load 4 (.tmp 48)) (some 49) [3])
  (s5 : Sp ops 5 (.unOp .not 4 (.tmp 49)) (some 50) [4])
  (s6 : Sp ops 6 (.move (.tmp 50)) (some 51) [5])
  (s11 : Sp ops 11 (.pick (.tmp 51) (.tmp 55) (.const (.bool false))) (some 56) [6])
  (s12 : Sp ops 12 (.fieldAddr 30 (.tmp 7) 9) (some 57) [])
  (s13 : Sp ops 13 (.store 4 (.tmp 57) (.tmp 47)) (none) [12, 2])
  (s14 : Sp ops 14 (.fieldAddr 30 (.tmp 7) 10) (some 58) [])
  (s15 : Sp ops 15 (.store 4 (.tmp 58) (.tmp 56)) (none) [14, 11])
  (s7 : SpG ops 7 6 52 51) (s8 : SpG ops 8 6 53 51) (s9 : SpG ops 9 6 54 51) (s10 : SpG ops 10 6 55 51)
  (hsz0 : a0.tmps.size = 61) (e1 : a0.eval (.tmp 1) = .pointer (some ⟨X, 0, none⟩)) (e7 : a0.eval (.tmp 7) = .pointer (some ⟨P, 0, none⟩))
  (hX : w7.heap[X]? = some (.cells #[.bool true, .int .u8 5, .int .u8 2, .bool true, .int .u8 2, .int .i64 8, .int .i64 0, .int .u8 1, .int .u8 0, .int .u8 1, .bool ptg, .bool false, .int .u8 0, .int .u8 0, .int .u8 0, .int .u16 0, .int .u16 0, .int .u16 0, .slice none 0 0, .int .i64 0, .bool false, .int .i64 0, .slice none 0 0, .int .i64 0, .int .i64 0, .bool true, .int .u8 2, .int .i64 8, .bool btg, .slice none 0 0, .bool false, .int .i64 len, .slice none 0 0, .slice DA dn dc, .int .i64 act, .int .i64 er, .bool false, .int .i64 e, .bool false, .int .u8 0, .int .i64 0, .slice none 0 0, .int .i64 0, .int .i64 0, .slice none 0 0, .slice IA im ic, .int .i64 0] 54 (0, 0))) (hXP : X < P) (hP : w7.heap[P]? = some (.cells #[.int .u8 5, .int .u8 2, .bool true, .int .u8 2, .int .i64 8, .int .i64 0, .int .u8 1, .int .u8 0, .int .u8 1, .bool ptg, .bool false] 30 (0, 0)))
  (htog : ∀ w : World, Calls Tryz.prog 29 #[.agg #[.bool true, .int .u8 2, .int .i64 8, .bool btg, .slice none 0 0, .bool false, .int .i64 len, .slice none 0 0, .slice DA dn dc, .int .i64 act, .int .i64 er, .bool false, .int .i64 e]] w fun e w' => e = .returned (.bool btg) ∧ Below w.heap.size w w')
  (hQ : ∀ (a : Act) (w : World), Fr [45, 46, 47, 48, 49, 50, 51, 52, 53, 54, 55, 56, 57, 58] a0 a → WS btg btg P w7 w (fun _ => true) → Q .normal a w) :
  (Code.region id ops true).wp Tryz.prog Q a0 w7 := by
 have hfX : ∀ w : World, (Instr.fieldAt 54 (Value.pointer (some ⟨X, 0, none⟩)) 3).run Tryz.prog w = .ok (.pointer (some ⟨X, 25, none⟩)) w := by
  intro w
  simp [go_sem]
 have hfP : ∀ (f : Nat), f ≤ 10 → ∀ w : World, (Instr.fieldAt 30 (Value.pointer (some ⟨P, 0, none⟩)) f).run Tryz.prog w = .ok (.pointer (some ⟨P, f, none⟩)) w := by
  intro f hf w
  obtain rfl | rfl | rfl | rfl | rfl | rfl | rfl | rfl | rfl | rfl | rfl : f = 0 ∨ f = 1 ∨ f = 2 ∨ f = 3 ∨ f = 4 ∨ f = 5 ∨ f = 6 ∨ f = 7 ∨ f = 8 ∨ f = 9 ∨ f = 10 := by omega
  all_goals simp [go_sem]
 have hldX : ∀ w : World, w.heap[X]? = some (.cells #[.bool true, .int .u8 5, .int .u8 2, .bool true, .int .u8 2, .int .i64 8, .int .i64 0, .int .u8 1, .int .u8 0, .int .u8 1, .bool ptg, .bool false, .int .u8 0, .int .u8 0, .int .u8 0, .int .u16 0, .int .u16 0, .int .u16 0, .slice none 0 0, .int .i64 0, .bool false, .int .i64 0, .slice none 0 0, .int .i64 0, .int .i64 0, .bool true, .int .u8 2, .int .i64 8, .bool btg, .slice none 0 0, .bool false, .int .i64 len, .slice none 0 0, .slice DA dn dc, .int .i64 act, .int .i64 er, .bool false, .int .i64 e, .bool false, .int .u8 0, .int .i64 0, .slice none 0 0, .int .i64 0, .int .i64 0, .slice none 0 0, .slice IA im ic, .int .i64 0] 54 (0, 0)) → (Instr.loadAt 47 (Value.pointer (some ⟨X, 25, none⟩))).run Tryz.prog w = .ok (.agg #[.bool true, .int .u8 2, .int .i64 8, .bool btg, .slice none 0 0, .bool false, .int .i64 len, .slice none 0 0, .slice DA dn dc, .int .i64 act, .int .i64 er, .bool false, .int .i64 e]) w := by
  intro w h
  have k25 := cell_of h 25
  have k26 := cell_of h 26
  have k27 := cell_of h 27
  have k28 := cell_of h 28
  have k29 := cell_of h 29
  have k30 := cell_of h 30
  have k31 := cell_of h 31
  have k32 := cell_of h 32
  have k33 := cell_of h 33
  have k34 := cell_of h 34
  have k35 := cell_of h 35
  have k36 := cell_of h 36
  have k37 := cell_of h 37
  simp [go_sem, k25, k26, k27, k28, k29, k30, k31, k32, k33, k34, k35, k36, k37]
 have hldP : ∀ w : World, w.cell? ⟨P, 2, none⟩ = some (.bool true) → (Instr.loadAt 4 (Value.pointer (some ⟨P, 2, none⟩))).run Tryz.prog w = .ok (.bool true) w := by
  intro w h
  simp [go_sem, h]
 have hst13 : ∀ (w : World) {v}, w.cell? ⟨P, 9, none⟩ = some v → w.frozen? ⟨P, 9, none⟩ = false → (Instr.storeAt 4 (Value.pointer (some ⟨P, 9, none⟩)) (.bool btg)).run Tryz.prog w = .ok () (w.setCell ⟨P, 9, none⟩ (.bool btg)) := by
  intro w v h1 h2
  simp [go_sem, h1, h2]
 have hst15 : ∀ (w : World) {v}, w.cell? ⟨P, 10, none⟩ = some v → w.frozen? ⟨P, 10, none⟩ = false → (Instr.storeAt 4 (Value.pointer (some ⟨P, 10, none⟩)) (.bool false)).run Tryz.prog w = .ok () (w.setCell ⟨P, 10, none⟩ (.bool false)) := by
  intro w v h1 h2
  simp [go_sem, h1, h2]
 refine region_inv (by kernel_rfl) hback (J10 ptg btg len DA dn dc act er e a0 X P w7) ?_ ?_ ?_
 ·exact ⟨Fr.refl _ _, (fun h => nomatch h), (fun h => nomatch h), (fun h => nomatch h), (fun h => nomatch h), (fun h => nomatch h), (fun h => nomatch h), (fun h => nomatch h), (fun h => nomatch h), (fun h => nomatch h), (fun h => nomatch h), (Below.refl _ _).drew, fun _ _ _ => rfl, hP⟩
 rotate_left
 ·rintro b a w hall ⟨hF, c0, c1, c2, c3, c4, c5, c6, c11, c12, c14, hw⟩
  rw [hn] at hall
  refine hQ a w hF ?_
  obtain ⟨h1, h2, h3⟩ := hw
  rw [if_pos (hall 13 (by decide))] at h3
  exact ⟨h1, h2, h3⟩
 rintro b a w i o ho hb he ⟨hF, c0, c1, c2, c3, c4, c5, c6, c11, c12, c14, hw⟩
 have hi : i < 16 := by rw [← hn]; exact (Array.getElem?_eq_some_iff.1 ho).1
 have hsz : a.tmps.size = 61 := hF.size.trans hsz0
 obtain rfl | rfl | rfl | rfl | rfl | rfl | rfl | rfl | rfl | rfl | rfl | rfl | rfl | rfl | rfl | rfl : i = 0 ∨ i = 1 ∨ i = 2 ∨ i = 3 ∨ i = 4 ∨ i = 5 ∨ i = 6 ∨ i = 7 ∨ i = 8 ∨ i = 9 ∨ i = 10 ∨ i = 11 ∨ i = 12 ∨ i = 13 ∨ i = 14 ∨ i = 15 := by omega
 ·obtain ⟨hop, hd, hg, hp⟩ := s0.get ho he
  refine wpOp_plain ho hg ?_
  refine op_fieldS hop (by rw [hF.eval (by decide), e1]; exact hfX w) ?_
  rw [hd]
  exact ⟨hF.put (by decide) _, fun _ => (eval_same (by omega)).trans (rfl), fun hb' => (eval_other (by decide)).trans (c1 hb'), fun hb' => (eval_other (by decide)).trans (c2 hb'), fun hb' => (eval_other (by decide)).trans (c3 hb'), fun hb' => (eval_other (by decide)).trans (c4 hb'), fun hb' => (eval_other (by decide)).trans (c5 hb'), fun hb' => (eval_other (by decide)).trans (c6 hb'), fun hb' => (eval_other (by decide)).trans (c11 hb'), fun hb' => (eval_other (by decide)).trans (c12 hb'), fun hb' => (eval_other (by decide)).trans (c14 hb'), hw⟩
 ·obtain ⟨hop, hd, hg, hp⟩ := s1.get ho he
  have p0 := hp 0 (by simp)
  refine wpOp_plain ho hg ?_
  refine op_load hop (by rw [c0 p0]; exact hldX w ((hw.1.block X hXP).trans hX)) ?_
  rw [hd]
  exact ⟨hF.put (by decide) _, fun hb' => (eval_other (by decide)).trans (c0 hb'), fun _ => (eval_same (by omega)).trans (rfl), fun hb' => (eval_other (by decide)).trans (c2 hb'), fun hb' => (eval_other (by decide)).trans (c3 hb'), fun hb' => (eval_other (by decide)).trans (c4 hb'), fun hb' => (eval_other (by decide)).trans (c5 hb'), fun hb' => (eval_other (by decide)).trans (c6 hb'), fun hb' => (eval_other (by decide)).trans (c11 hb'), fun hb' => (eval_other (by decide)).trans (c12 hb'), fun hb' => (eval_other (by decide)).trans (c14 hb'), hw⟩
 ·obtain ⟨hop, hd, hg, hp⟩ := s2.get ho he
  have p1 := hp 1 (by simp)
  refine wpOp_plain ho hg ?_
  refine op_any (n := .enter 29 #[.agg #[.bool true, .int .u8 2, .int .i64 8, .bool btg, .slice none 0 0, .bool false, .int .i64 len, .slice none 0 0, .slice DA dn dc, .int .i64 act, .int .i64 er, .bool false, .int .i64 e]]) (w' := w) (by rw [show execOp a.eval o = callFunc 29 (#[] ++ (#[.tmp 46] : Array Operand).map a.eval ++ #[]) from by unfold execOp; rw [hop]; rfl, Go.Sy.run_callFunc (Go.Sy.callable plain (by kernel_rfl))]; simp [c1 p1]) ?_
  rw [Oper.upon_enter]
  refine (htog w).mono ?_
  rintro e' w' ⟨rfl, h1⟩
  dsimp only
  rw [hd]
  have hlt := (Array.getElem?_eq_some_iff.1 hw.2.2).1
  exact ⟨hF.put (by decide) _, fun hb' => (eval_other (by decide)).trans (c0 hb'), fun hb' => (eval_other (by decide)).trans (c1 hb'), fun _ => (eval_same (by omega)).trans (rfl), fun hb' => (eval_other (by decide)).trans (c3 hb'), fun hb' => (eval_other (by decide)).trans (c4 hb'), fun hb' => (eval_other (by decide)).trans (c5 hb'), fun hb' => (eval_other (by decide)).trans (c6 hb'), fun hb' => (eval_other (by decide)).trans (c11 hb'), fun hb' => (eval_other (by decide)).trans (c12 hb'), fun hb' => (eval_other (by decide)).trans (c14 hb'), ⟨hw.1.trans (h1.mono (Nat.le_of_lt hlt)), fun i h2 h3 => (h1.block i (Nat.lt_of_lt_of_le h3 hw.1.size)).trans (hw.2.1 i h2 h3), (h1.block P hlt).trans hw.2.2⟩⟩
 ·obtain ⟨hop, hd, hg, hp⟩ := s3.get ho he
  refine wpOp_plain ho hg ?_
  refine op_fieldS hop (by rw [hF.eval (by decide), e7]; exact hfP 2 (by omega) w) ?_
  rw [hd]
  exact ⟨hF.put (by decide) _, fun hb' => (eval_other (by decide)).trans (c0 hb'), fun hb' => (eval_other (by decide)).trans (c1 hb'), fun hb' => (eval_other (by decide)).trans (c2 hb'), fun _ => (eval_same (by omega)).trans (rfl), fun hb' => (eval_other (by decide)).trans (c4 hb'), fun hb' => (eval_other (by decide)).trans (c5 hb'), fun hb' => (eval_other (by decide)).trans (c6 hb'), fun hb' => (eval_other (by decide)).trans (c11 hb'), fun hb' => (eval_other (by decide)).trans (c12 hb'), fun hb' => (eval_other (by decide)).trans (c14 hb'), hw⟩
 ·obtain ⟨hop, hd, hg, hp⟩ := s4.get ho he
  have p3 := hp 3 (by simp)
  refine wpOp_plain ho hg ?_
  refine op_load hop (by rw [c3 p3]; exact hldP w ((cell_of hw.2.2 2))) ?_
  rw [hd]
  exact ⟨hF.put (by decide) _, fun hb' => (eval_other (by decide)).trans (c0 hb'), fun hb' => (eval_other (by decide)).trans (c1 hb'), fun hb' => (eval_other (by decide)).trans (c2 hb'), fun hb' => (eval_other (by decide)).trans (c3 hb'), fun _ => (eval_same (by omega)).trans (rfl), fun hb' => (eval_other (by decide)).trans (c5 hb'), fun hb' => (eval_other (by decide)).trans (c6 hb'), fun hb' => (eval_other (by decide)).trans (c11 hb'), fun hb' => (eval_other (by decide)).trans (c12 hb'), fun hb' => (eval_other (by decide)).trans (c14 hb'), hw⟩
 ·obtain ⟨hop, hd, hg, hp⟩ := s5.get ho he
  have p4 := hp 4 (by simp)
  refine wpOp_plain ho hg ?_
  refine op_any (n := .value (.bool false)) (w' := w) (by unfold execOp; simp only [hop]; rw [c4 p4]; simp [go_sem]) ?_
  rw [Oper.upon_value, hd]
  exact ⟨hF.put (by decide) _, fun hb' => (eval_other (by decide)).trans (c0 hb'), fun hb' => (eval_other (by decide)).trans (c1 hb'), fun hb' => (eval_other (by decide)).trans (c2 hb'), fun hb' => (eval_other (by decide)).trans (c3 hb'), fun hb' => (eval_other (by decide)).trans (c4 hb'), fun _ => (eval_same (by omega)).trans (rfl), fun hb' => (eval_other (by decide)).trans (c6 hb'), fun hb' => (eval_other (by decide)).trans (c11 hb'), fun hb' => (eval_other (by decide)).trans (c12 hb'), fun hb' => (eval_other (by decide)).trans (c14 hb'), hw⟩
 ·obtain ⟨hop, hd, hg, hp⟩ := s6.get ho he
  have p5 := hp 5 (by simp)
  refine wpOp_plain ho hg ?_
  refine op_move (.inl hop) ?_
  rw [hd]
  exact ⟨hF.put (by decide) _, fun hb' => (eval_other (by decide)).trans (c0 hb'), fun hb' => (eval_other (by decide)).trans (c1 hb'), fun hb' => (eval_other (by decide)).trans (c2 hb'), fun hb' => (eval_other (by decide)).trans (c3 hb'), fun hb' => (eval_other (by decide)).trans (c4 hb'), fun hb' => (eval_other (by decide)).trans (c5 hb'), fun _ => (eval_same (by omega)).trans (c5 p5), fun hb' => (eval_other (by decide)).trans (c11 hb'), fun hb' => (eval_other (by decide)).trans (c12 hb'), fun hb' => (eval_other (by decide)).trans (c14 hb'), hw⟩
 ·obtain ⟨hd, hg, hs, p6⟩ := s7.get ho he
  refine wpOp_skip ho hd hg hs (by omega) (c6 p6) ?_
  exact ⟨hF.put (by decide) _, fun hb' => (eval_other (by decide)).trans (c0 hb'), fun hb' => (eval_other (by decide)).trans (c1 hb'), fun hb' => (eval_other (by decide)).trans (c2 hb'), fun hb' => (eval_other (by decide)).trans (c3 hb'), fun hb' => (eval_other (by decide)).trans (c4 hb'), fun hb' => (eval_other (by decide)).trans (c5 hb'), fun hb' => (eval_other (by decide)).trans (c6 hb'), fun hb' => (eval_other (by decide)).trans (c11 hb'), fun hb' => (eval_other (by decide)).trans (c12 hb'), fun hb' => (eval_other (by decide)).trans (c14 hb'), hw⟩
 ·obtain ⟨hd, hg, hs, p6⟩ := s8.get ho he
  refine wpOp_skip ho hd hg hs (by omega) (c6 p6) ?_
  exact ⟨hF.put (by decide) _, fun hb' => (eval_other (by decide)).trans (c0 hb'), fun hb' => (eval_other (by decide)).trans (c1 hb'), fun hb' => (eval_other (by decide)).trans (c2 hb'), fun hb' => (eval_other (by decide)).trans (c3 hb'), fun hb' => (eval_other (by decide)).trans (c4 hb'), fun hb' => (eval_other (by decide)).trans (c5 hb'), fun hb' => (eval_other (by decide)).trans (c6 hb'), fun hb' => (eval_other (by decide)).trans (c11 hb'), fun hb' => (eval_other (by decide)).trans (c12 hb'), fun hb' => (eval_other (by decide)).trans (c14 hb'), hw⟩
 ·obtain ⟨hd, hg, hs, p6⟩ := s9.get ho he
  refine wpOp_skip ho hd hg hs (by omega) (c6 p6) ?_
  exact ⟨hF.put (by decide) _, fun hb' => (eval_other (by decide)).trans (c0 hb'), fun hb' => (eval_other (by decide)).trans (c1 hb'), fun hb' => (eval_other (by decide)).trans (c2 hb'), fun hb' => (eval_other (by decide)).trans (c3 hb'), fun hb' => (eval_other (by decide)).trans (c4 hb'), fun hb' => (eval_other (by decide)).trans (c5 hb'), fun hb' => (eval_other (by decide)).trans (c6 hb'), fun hb' => (eval_other (by decide)).trans (c11 hb'), fun hb' => (eval_other (by decide)).trans (c12 hb'), fun hb' => (eval_other (by decide)).trans (c14 hb'), hw⟩
 ·obtain ⟨hd, hg, hs, p6⟩ := s10.get ho he
  refine wpOp_skip ho hd hg hs (by omega) (c6 p6) ?_
  exact ⟨hF.put (by decide) _, fun hb' => (eval_other (by decide)).trans (c0 hb'), fun hb' => (eval_other (by decide)).trans (c1 hb'), fun hb' => (eval_other (by decide)).trans (c2 hb'), fun hb' => (eval_other (by decide)).trans (c3 hb'), fun hb' => (eval_other (by decide)).trans (c4 hb'), fun hb' => (eval_other (by decide)).trans (c5 hb'), fun hb' => (eval_other (by decide)).trans (c6 hb'), fun hb' => (eval_other (by decide)).trans (c11 hb'), fun hb' => (eval_other (by decide)).trans (c12 hb'), fun hb' => (eval_other (by decide)).trans (c14 hb'), hw⟩
 ·obtain ⟨hop, hd, hg, hp⟩ := s11.get ho he
  have p6 := hp 6 (by simp)
  refine wpOp_plain ho hg ?_
  refine op_any (n := .value (.bool false)) (w' := w) (by unfold execOp; simp only [hop]; rw [c6 p6]; simp [go_sem, Act.eval]) ?_
  rw [Oper.upon_value, hd]
  exact ⟨hF.put (by decide) _, fun hb' => (eval_other (by decide)).trans (c0 hb'), fun hb' => (eval_other (by decide)).trans (c1 hb'), fun hb' => (eval_other (by decide)).trans (c2 hb'), fun hb' => (eval_other (by decide)).trans (c3 hb'), fun hb' => (eval_other (by decide)).trans (c4 hb'), fun hb' => (eval_other (by decide)).trans (c5 hb'), fun hb' => (eval_other (by decide)).trans (c6 hb'), fun _ => (eval_same (by omega)).trans (rfl), fun hb' => (eval_other (by decide)).trans (c12 hb'), fun hb' => (eval_other (by decide)).trans (c14 hb'), hw⟩
 ·obtain ⟨hop, hd, hg, hp⟩ := s12.get ho he
  refine wpOp_plain ho hg ?_
  refine op_fieldS hop (by rw [hF.eval (by decide), e7]; exact hfP 9 (by omega) w) ?_
  rw [hd]
  exact ⟨hF.put (by decide) _, fun hb' => (eval_other (by decide)).trans (c0 hb'), fun hb' => (eval_other (by decide)).trans (c1 hb'), fun hb' => (eval_other (by decide)).trans (c2 hb'), fun hb' => (eval_other (by decide)).trans (c3 hb'), fun hb' => (eval_other (by decide)).trans (c4 hb'), fun hb' => (eval_other (by decide)).trans (c5 hb'), fun hb' => (eval_other (by decide)).trans (c6 hb'), fun hb' => (eval_other (by decide)).trans (c11 hb'), fun _ => (eval_same (by omega)).trans (rfl), fun hb' => (eval_other (by decide)).trans (c14 hb'), hw⟩
 ·obtain ⟨hop, hd, hg, hp⟩ := s13.get ho he
  have p12 := hp 12 (by simp)
  have p2 := hp 2 (by simp)
  refine wpOp_plain ho hg ?_
  have hn : ¬ b 13 = true := by simp [hb]
  have hrow := hw.2.2
  refine op_store (w' := w.setCell ⟨P, 9, none⟩ (.bool btg)) hop (by rw [c12 p12, c2 p2]; exact hst13 w (cell_of hrow 9) (frozen_of hrow 9)) ?_
  rw [hd]
  have hW := (Wrote.refl P w).setCell 9 (.bool btg)
  have hnew := setCell_heap hrow 9 (.bool btg)
  exact ⟨hF.put0 _, fun hb' => c0 hb', fun hb' => c1 hb', fun hb' => c2 hb', fun hb' => c3 hb', fun hb' => c4 hb', fun hb' => c5 hb', fun hb' => c6 hb', fun hb' => c11 hb', fun hb' => c12 hb', fun hb' => c14 hb', ⟨hw.1.trans (hW.below (Nat.le_refl _)), fun i h2 h3 => (hW.other i (by omega)).trans (hw.2.1 i h2 h3), by rw [hnew]; simp⟩⟩
 ·obtain ⟨hop, hd, hg, hp⟩ := s14.get ho he
  refine wpOp_plain ho hg ?_
  refine op_fieldS hop (by rw [hF.eval (by decide), e7]; exact hfP 10 (by omega) w) ?_
  rw [hd]
  exact ⟨hF.put (by decide) _, fun hb' => (eval_other (by decide)).trans (c0 hb'), fun hb' => (eval_other (by decide)).trans (c1 hb'), fun hb' => (eval_other (by decide)).trans (c2 hb'), fun hb' => (eval_other (by decide)).trans (c3 hb'), fun hb' => (eval_other (by decide)).trans (c4 hb'), fun hb' => (eval_other (by decide)).trans (c5 hb'), fun hb' => (eval_other (by decide)).trans (c6 hb'), fun hb' => (eval_other (by decide)).trans (c11 hb'), fun hb' => (eval_other (by decide)).trans (c12 hb'), fun _ => (eval_same (by omega)).trans (rfl), hw⟩
 ·obtain ⟨hop, hd, hg, hp⟩ := s15.get ho he
  have p14 := hp 14 (by simp)
  have p11 := hp 11 (by simp)
  refine wpOp_plain ho hg ?_
  have hn : ¬ b 15 = true := by simp [hb]
  have hrow := hw.2.2
  refine op_store (w' := w.setCell ⟨P, 10, none⟩ (.bool false)) hop (by rw [c14 p14, c11 p11]; exact hst15 w (cell_of hrow 10) (frozen_of hrow 10)) ?_
  rw [hd]
  have hW := (Wrote.refl P w).setCell 10 (.bool false)
  have hnew := setCell_heap hrow 10 (.bool false)
  exact ⟨hF.put0 _, fun hb' => c0 hb', fun hb' => c1 hb', fun hb' => c2 hb', fun hb' => c3 hb', fun hb' => c4 hb', fun hb' => c5 hb', fun hb' => c6 hb', fun hb' => c11 hb', fun hb' => c12 hb', fun hb' => c14 hb', ⟨hw.1.trans (hW.below (Nat.le_refl _)), fun i h2 h3 => (hW.other i (by omega)).trans (hw.2.1 i h2 h3), hnew⟩⟩
end Go.Proofs.YtiajboiobjfcoaaGreatDoor
