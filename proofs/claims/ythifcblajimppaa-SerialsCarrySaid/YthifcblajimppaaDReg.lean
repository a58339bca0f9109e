/-
  What is proved here: single operations of a region whose order is drawn: such as are wanted, and such as are not.
  Conditions: none.
-/
import Derived.Test.YthifcblajimppaaIReg
import Derived.Test.YthifcblajimppaaSyM5
namespace Go.Proofs.Ythifcblajimppaa
open Go.Proofs Go.RowKit
def Sp (ops : Array Oper) (i : Nat) (op : Op) (dst : Option Tmp) (pre : List Nat) : Prop := ∃ o, ops[i]? = some o ∧ o.op = op ∧ o.dst = dst ∧ o.guard = none ∧ (pre.all fun j => o.after.toList.any fun e => (e.on == j) && Region.binds .any e) = true
theorem Sp.get {ops : Array Oper} {i : Nat} {op : Op} {dst : Option Tmp} {pre : List Nat} (h : Sp ops i op dst pre) {o : Oper} (ho : ops[i]? = some o) {b : Nat → Bool} (he : ∀ e ∈ o.after, Region.binds .any e = true → b e.on = true) : o.op = op ∧ o.dst = dst ∧ o.guard = none ∧ ∀ j ∈ pre, b j = true := by
 obtain ⟨o', h1, h2, h3, h4, h5⟩ := h
 rw [ho] at h1
 obtain rfl := Option.some.inj h1
 refine ⟨h2, h3, h4, fun j hj => ?_⟩
 obtain ⟨e, he1, he2⟩ := List.any_eq_true.1 (List.all_eq_true.1 h5 j hj)
 rw [Bool.and_eq_true, beq_iff_eq] at he2
 rw [← he2.1]
 exact he e (by simpa using he1) he2.2
def SpW (ops : Array Oper) (i j s : Nat) (op : Op) (dst : Option Tmp) (pre : List Nat) : Prop := ∃ o, ops[i]? = some o ∧ o.op = op ∧ o.dst = dst ∧ o.guard = some (j, true) ∧ (ops[j]?).bind (·.dst) = some s ∧ ((j :: pre).all fun j => o.after.toList.any fun e => (e.on == j) && Region.binds .any e) = true
theorem SpW.get {ops : Array Oper} {i j s : Nat} {op : Op} {dst : Option Tmp} {pre : List Nat} (h : SpW ops i j s op dst pre) {o : Oper} (ho : ops[i]? = some o) {b : Nat → Bool} (he : ∀ e ∈ o.after, Region.binds .any e = true → b e.on = true) : o.op = op ∧ o.dst = dst ∧ o.guard = some (j, true) ∧ (ops[j]?).bind (·.dst) = some s ∧ b j = true ∧ ∀ j ∈ pre, b j = true := by
 obtain ⟨o', h1, h2, h3, h4, h5, h6⟩ := h
 rw [ho] at h1
 obtain rfl := Option.some.inj h1
 have h7 : ∀ k ∈ j :: pre, b k = true := fun k hk => by
  obtain ⟨e, he1, he2⟩ := List.any_eq_true.1 (List.all_eq_true.1 h6 k hk)
  rw [Bool.and_eq_true, beq_iff_eq] at he2
  rw [← he2.1]
  exact he e (by simpa using he1) he2.2
 exact ⟨h2, h3, h4, h5, h7 j (by simp), fun k hk => h7 k (by simp [hk])⟩
theorem wpOp_want {P : Program} {ops : Array Oper} {Q : Exit → Act → World → Prop} {i j s : Nat} {K : Act → World → Prop} {a : Act} {w : World} {o : Oper} (ho : ops[i]? = some o) (hg : o.guard = some (j, true)) (hs : (ops[j]?).bind (·.dst) = some s) (hlt : s < a.tmps.size) (hv : a.eval (.tmp s) = .bool true) (h : o.wp P a w K Q) : wpOp P ops Q i K a w := by
 unfold wpOp
 simp only [ho]
 have hv' : a.tmps[s]? = some (.bool true) := by
  have e : a.tmps.getD s undef = .bool true := hv
  rw [Array.getElem?_eq_getElem hlt, ← e]
  simp [Array.getD, hlt]
 have hy : yielded ops a.tmps j = some true := by
  unfold yielded
  rw [hs]
  simp only [Option.bind_some, hv']
 have hw : Region.wanted o (yielded ops a.tmps) = true := by simp [Region.wanted, hg, hy]
 rw [if_pos hw]
 exact .inl h
section
variable {P : Program} {o : Oper} {a : Act} {w : World} {K : Act → World → Prop} {Q : Exit → Act → World → Prop}
theorem op_fieldS {s : TypeId} {x : Operand} {f : Nat} {v : Value} (ho : o.op = .fieldAddr s x f) (hv : (Instr.fieldAt s (a.eval x) f).run P w = .ok v w) (h : K (a.put o.dst v) w) : o.wp P a w K Q := by
 unfold Oper.wp execOp
 simp only [ho, Sem.run_bind, hv, Result.andThen_ok, Sem.run_pure, Oper.upon_value]
 exact h
end
end Go.Proofs.Ythifcblajimppaa
