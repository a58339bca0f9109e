/-
  What is proved here: the check of a region whose order is drawn: what its bits say is forced.
  Conditions: none.
-/
import Derived.Test.YtcipfcbaclfnhaaSyRel
import Derived.Orders
namespace Go.Sy

/-- the edges force operation j before operation i -/
inductive Anc (ops : Array Oper) : Nat → Nat → Prop where
  | edge {i : Nat} {o : Oper} {e : Edge} (ho : ops[i]? = some o) (he : e ∈ o.after) (hb : Region.binds .any e = true) : Anc ops i e.on
  | step {i j : Nat} {o : Oper} {e : Edge} (ho : ops[i]? = some o) (he : e ∈ o.after) (hb : Region.binds .any e = true) (h : Anc ops e.on j) : Anc ops i j

theorem Anc.trans {ops : Array Oper} {i j k : Nat} (h : Anc ops i j) (h2 : Anc ops j k) : Anc ops i k := by
  induction h with
  | edge ho he hb => exact .step ho he hb h2
  | step ho he hb _ ih => exact .step ho he hb (ih h2)

theorem bindsB_eq (e : Edge) : bindsB e = Region.binds .any e := by
  obtain ⟨on, g⟩ := e
  cases g <;> rfl

theorem forceN_eq {α : Type} (n : Nat) (k : Nat → α) : forceN n k = k n := by cases n <;> rfl

theorem bitB_iff {A i : Nat} (h : bitB A i = true) : A.testBit i = true := by
  unfold bitB at h
  rw [beq_iff] at h
  have h : (A >>> i) &&& 1 = 1 := h
  unfold Nat.testBit
  rw [Nat.and_comm, h]
  rfl

theorem subN_bit {e A : Nat} (h : subN e A = true) {j : Nat} (hj : e.testBit j = true) : A.testBit j = true := by
  unfold subN at h
  rw [beq_iff] at h
  have h : e &&& A = e := h
  rw [← h, Nat.testBit_and] at hj
  simp at hj
  exact hj.2

section ops
variable {ops : Array Oper}

theorem ancOf_ok {look : Nat → Nat} (hl : ∀ j b, (look j).testBit b = true → Anc ops j b) {i : Nat} {o : Oper} (ho : ops[i]? = some o) : ∀ (l : List Edge), (∀ e ∈ l, e ∈ o.after) → ∀ b, (ancOf l look).testBit b = true → Anc ops i b
  | [], _, b, h => by
    have h : (0 : Nat).testBit b = true := h
    simp at h
  | e :: l, hs, b, h => by
    have h : (selB (bindsB e) (Nat.lor (Nat.lor (Nat.pow 2 e.on) (look e.on)) (ancOf l look)) (ancOf l look)).testBit b = true := h
    have hs' : ∀ x ∈ l, x ∈ o.after := fun x hx => hs x (.tail _ hx)
    cases hb : bindsB e with
    | false => rw [hb] at h; exact ancOf_ok hl ho l hs' b h
    | true =>
      rw [hb] at h
      have h : ((2 ^ e.on ||| look e.on) ||| ancOf l look).testBit b = true := h
      rw [bindsB_eq] at hb
      rw [Nat.testBit_or, Nat.testBit_or, Bool.or_eq_true, Bool.or_eq_true] at h
      rcases h with (h | h) | h
      · rw [Nat.testBit_two_pow] at h
        simp at h
        subst h
        exact .edge ho (hs e (.head _)) hb
      · exact .step ho (hs e (.head _)) hb (hl _ _ h)
      · exact ancOf_ok hl ho l hs' b h

theorem putN_ok {look : Nat → Nat} (hl : ∀ j b, (look j).testBit b = true → Anc ops j b) {i A : Nat} (hA : ∀ b, A.testBit b = true → Anc ops i b) : ∀ j b, (putN look i A j).testBit b = true → Anc ops j b := by
  intro j b h
  have h1 : (Bool.rec (look j) A (Nat.beq j i) : Nat).testBit b = true := h
  clear h
  cases hj : Nat.beq j i with
  | false => rw [hj] at h1; exact hl j b h1
  | true => rw [hj] at h1; rw [beq_iff] at hj; subst hj; exact hA b h1

/-! ### the check of the slots -/

def tmpsOf (l : List Operand) : List Nat := l.filterMap fun | .tmp t => some t | _ => none

/-- the slots that an operation looks at -/
def looks (ops : Array Oper) (o : Oper) : List Nat := tmpsOf o.op.operands.toList ++ (match o.guard with | none => [] | some g => (guardSlot ops g.1).toList)

/-- the two may run in any order, as far as slots are concerned -/
def slotsApart (d : Option Nat) (ns : List Nat) (d' : Option Nat) (ns' : List Nat) : Bool :=
  (match d with | none => true | some t => !ns'.contains t && !(d' == some t)) && (match d' with | none => true | some t => !ns.contains t)

noncomputable def regL (ops : Array Oper) : List Oper → Nat → (Nat → Nat) → List (Nat × List Nat × Option Nat) → Bool
  | [], _, _, _ => true
  | o :: l, i, look, seen => forceN (ancOf o.after.toList look) fun A =>
    (o.after.toList.all fun e => !bindsB e || Nat.blt e.on i) && (seen.all fun s => bitB A s.1 || slotsApart o.dst (looks ops o) s.2.2 s.2.1) && regL ops l (i + 1) (putN look i A) ((i, looks ops o, o.dst) :: seen)

noncomputable def regOK (ops : Array Oper) : Bool := regL ops ops.toList 0 (fun _ => 0) []

/-- what the check says -/
structure RegF (ops : Array Oper) : Prop where
  edges : ∀ (i : Nat) (o : Oper) (e : Edge), ops[i]? = some o → e ∈ o.after → Region.binds .any e = true → e.on < i
  apart : ∀ (i j : Nat) (o o' : Oper), ops[i]? = some o → ops[j]? = some o' → j < i → Anc ops i j ∨ slotsApart o.dst (looks ops o) o'.dst (looks ops o') = true

theorem regL_ok : ∀ (l : List Oper) (i : Nat) (look : Nat → Nat) (seen : List (Nat × List Nat × Option Nat)), ops.toList.drop i = l → (∀ j b, (look j).testBit b = true → Anc ops j b) →
    (∀ j o, j < i → ops[j]? = some o → (j, looks ops o, o.dst) ∈ seen) → regL ops l i look seen = true →
    (∀ (k : Nat) (o : Oper) (e : Edge), i ≤ k → ops[k]? = some o → e ∈ o.after → Region.binds .any e = true → e.on < k) ∧
    (∀ (k j : Nat) (o o' : Oper), i ≤ k → ops[k]? = some o → ops[j]? = some o' → j < k → Anc ops k j ∨ slotsApart o.dst (looks ops o) o'.dst (looks ops o') = true)
  | [], i, look, seen, hd, _, _, _ => by
    have hs : ops.size ≤ i := by
      have := congrArg List.length hd
      simp at this; omega
    have hn : ∀ k, i ≤ k → ops[k]? = none := fun k hk => Array.getElem?_eq_none (by omega)
    exact ⟨fun k o e hk ho => by rw [hn k hk] at ho; simp at ho, fun k j o o' hk ho => by rw [hn k hk] at ho; simp at ho⟩
  | o :: l, i, look, seen, hd, hl, hs, h => by
    rw [regL, forceN_eq, Bool.and_eq_true, Bool.and_eq_true] at h
    obtain ⟨⟨h1, h2⟩, h3⟩ := h
    have ho : ops[i]? = some o := by
      have : (ops.toList.drop i)[0]? = some o := by rw [hd]; rfl
      simpa using this
    have hd' : ops.toList.drop (i + 1) = l := by
      rw [← List.drop_drop, hd]; rfl
    have hA : ∀ b, (ancOf o.after.toList look).testBit b = true → Anc ops i b := ancOf_ok hl ho _ (fun e he => by simpa using he)
    obtain ⟨r1, r2⟩ := regL_ok l (i + 1) _ _ hd' (putN_ok hl hA) (fun j o' hj hoj => by
      by_cases hji : j = i
      · subst hji; rw [ho] at hoj; simp at hoj; subst hoj; exact .head _
      · exact .tail _ (hs j o' (by omega) hoj)) h3
    refine ⟨fun k o' e hk hok he hb => ?_, fun k j o1 o2 hk h4 h5 hj => ?_⟩
    · by_cases hki : k = i
      · subst hki; rw [ho] at hok; simp at hok; subst hok
        have := List.all_eq_true.1 h1 e (by simpa using he)
        rw [bindsB_eq, hb] at this
        simp at this
        exact this
      · exact r1 k o' e (by omega) hok he hb
    · by_cases hki : k = i
      · subst hki; rw [ho] at h4; simp at h4; subst h4
        have := List.all_eq_true.1 h2 _ (hs j o2 hj h5)
        rw [Bool.or_eq_true] at this
        rcases this with h6 | h6
        · exact .inl (hA j (bitB_iff h6))
        · exact .inr h6
      · exact r2 k j o1 o2 (by omega) h4 h5 hj

theorem regF_of (h : regOK ops = true) : RegF ops := by
  obtain ⟨h1, h2⟩ := regL_ok ops.toList 0 (fun _ => 0) [] (by simp) (fun j b hb => by simp at hb) (fun j o hj => by omega) h
  exact ⟨fun i o e => h1 i o e (Nat.zero_le _), fun i j o o' => h2 i j o o' (Nat.zero_le _)⟩
end ops

/-- the check of all regions of a code -/
noncomputable def codeRegs : Code → Bool
  | .region _ ops d => !d || regOK ops
  | .seq a b => codeRegs a && codeRegs b
  | .cond _ a b => codeRegs a && codeRegs b
  | .block _ a => codeRegs a
  | .loop a => codeRegs a
  | .scope a => codeRegs a
  | _ => true

end Go.Sy
