/-
  What is proved here: leaves without the facts that are no plain arithmetic, each once.
  Conditions: none.
-/
import Derived.Test.YtcipfcbaclfnhaaDoorSyNorm
namespace Go.Sy

noncomputable def Z.beq : Z → Z → Bool
  | .n a, .n b => eqZ a b
  | .x a, .x b => Nat.beq a b
  | .add a b, .add c d => Z.beq a c && Z.beq b d
  | .sub a b, .sub c d => Z.beq a c && Z.beq b d
  | .mul a b, .mul c d => Z.beq a c && Z.beq b d
  | .md a b, .md c d => Z.beq a c && Z.beq b d
  | .dv a b, .dv c d => Z.beq a c && Z.beq b d
  | .e a, .e b => E.beq a b
  | _, _ => false

theorem Z.beq_eq {a : Z} : ∀ {b : Z}, Z.beq a b = true → a = b := by
  induction a with
  | n z => intro b h; cases b <;> simp only [Z.beq, Bool.false_eq_true] at h; rw [(eqZ_iff _ _).1 h]
  | x z => intro b h; cases b <;> simp only [Z.beq, Bool.false_eq_true] at h; rw [(beq_iff _ _).1 h]
  | e z => intro b h; cases b <;> simp only [Z.beq, Bool.false_eq_true] at h; rw [E.beq_eq h]
  | add a b iha ihb => intro c h; cases c <;> simp only [Z.beq, Bool.false_eq_true, Bool.and_eq_true] at h; rw [iha h.1, ihb h.2]
  | sub a b iha ihb => intro c h; cases c <;> simp only [Z.beq, Bool.false_eq_true, Bool.and_eq_true] at h; rw [iha h.1, ihb h.2]
  | mul a b iha ihb => intro c h; cases c <;> simp only [Z.beq, Bool.false_eq_true, Bool.and_eq_true] at h; rw [iha h.1, ihb h.2]
  | md a b iha ihb => intro c h; cases c <;> simp only [Z.beq, Bool.false_eq_true, Bool.and_eq_true] at h; rw [iha h.1, ihb h.2]
  | dv a b iha ihb => intro c h; cases c <;> simp only [Z.beq, Bool.false_eq_true, Bool.and_eq_true] at h; rw [iha h.1, ihb h.2]

noncomputable def BZ.beq : BZ → BZ → Bool
  | .lit a, .lit b => eqB a b
  | .lt a b, .lt c d => Z.beq a c && Z.beq b d
  | .eq a b, .eq c d => Z.beq a c && Z.beq b d
  | .not a, .not b => BZ.beq a b
  | _, _ => false

theorem BZ.beq_eq {a : BZ} : ∀ {b : BZ}, BZ.beq a b = true → a = b := by
  induction a with
  | lit z => intro b h; cases b <;> simp only [BZ.beq, Bool.false_eq_true] at h; rw [eqB_iff' h]
  | lt a b => intro c h; cases c <;> simp only [BZ.beq, Bool.false_eq_true, Bool.and_eq_true] at h; rw [Z.beq_eq h.1, Z.beq_eq h.2]
  | eq a b => intro c h; cases c <;> simp only [BZ.beq, Bool.false_eq_true, Bool.and_eq_true] at h; rw [Z.beq_eq h.1, Z.beq_eq h.2]
  | not a ih => intro c h; cases c <;> simp only [BZ.beq, Bool.false_eq_true] at h; rw [ih h]

noncomputable def GZ.beq : GZ → GZ → Bool
  | .ofZ a, .ofZ b => Z.beq a b
  | .ofB a, .ofB b => BZ.beq a b
  | _, _ => false

theorem GZ.beq_eq {a b : GZ} (h : GZ.beq a b = true) : a = b := by
  cases a <;> cases b <;> simp only [GZ.beq, Bool.false_eq_true] at h
  · rw [Z.beq_eq h]
  · rw [BZ.beq_eq h]

def eqList {α : Type} (f : α → α → Bool) : List α → List α → Bool
  | [], [] => true
  | a :: l, b :: r => f a b && eqList f l r
  | _, _ => false

theorem eqList_eq {α : Type} {f : α → α → Bool} (hf : ∀ {a b}, f a b = true → a = b) : ∀ {l r : List α}, eqList f l r = true → l = r
  | [], [], _ => rfl
  | [], _ :: _, h => (Bool.false_ne_true h).elim
  | _ :: _, [], h => (Bool.false_ne_true h).elim
  | a :: l, b :: r, h => by
    simp only [eqList, Bool.and_eq_true] at h
    rw [hf h.1, eqList_eq hf h.2]

noncomputable def factBeq (a b : BZ × Bool) : Bool := BZ.beq a.1 b.1 && eqB a.2 b.2
noncomputable def rangeBeq (a b : Int × Int) : Bool := eqZ a.1 b.1 && eqZ a.2 b.2

theorem factBeq_eq {a b : BZ × Bool} (h : factBeq a b = true) : a = b := by
  simp only [factBeq, Bool.and_eq_true] at h
  exact Prod.ext (BZ.beq_eq h.1) (eqB_iff' h.2)
theorem rangeBeq_eq {a b : Int × Int} (h : rangeBeq a b = true) : a = b := by
  simp only [rangeBeq, Bool.and_eq_true, eqZ_iff] at h
  exact Prod.ext h.1 h.2

noncomputable def Vz.beq (u v : Vz) : Bool := Nat.beq u.tag v.tag && eqList GZ.beq u.s v.s && eqList rangeBeq u.rng v.rng && eqList factBeq u.cs v.cs

theorem Vz.beq_eq {u v : Vz} (h : Vz.beq u v = true) : u = v := by
  simp only [Vz.beq, Bool.and_eq_true] at h
  obtain ⟨⟨⟨h1, h2⟩, h3⟩, h4⟩ := h
  have e1 : u.tag = v.tag := (beq_iff _ _).1 h1
  have e2 : u.s = v.s := eqList_eq GZ.beq_eq h2
  have e3 : u.rng = v.rng := eqList_eq rangeBeq_eq h3
  have e4 : u.cs = v.cs := eqList_eq factBeq_eq h4
  cases u; cases v
  simp_all

/-- no term but plain arithmetic -/
def Z.plain : Z → Bool
  | .n _ => true
  | .x _ => true
  | .add a b => a.plain && b.plain
  | .sub a b => a.plain && b.plain
  | .mul a b => a.plain && b.plain
  | .md a b => a.plain && b.plain
  | .dv a b => a.plain && b.plain
  | .e _ => false
def BZ.plain : BZ → Bool
  | .lit _ => true
  | .lt a b => a.plain && b.plain
  | .eq a b => a.plain && b.plain
  | .not a => a.plain

def slimF : List (BZ × Bool) → List (BZ × Bool)
  | [] => []
  | c :: l => cond c.1.plain (c :: slimF l) (slimF l)

theorem slimF_ok {ρ : Nat → Int} : ∀ {l : List (BZ × Bool)}, factsZ ρ l → factsZ ρ (slimF l)
  | [], _ => trivial
  | c :: l, h => by
    simp only [slimF]
    cases c.1.plain
    · exact slimF_ok h.2
    · exact ⟨h.1, slimF_ok h.2⟩

def slim (v : Vz) : Vz := ⟨slimF v.cs, v.rng, v.tag, v.s⟩

noncomputable def anyBeq (v : Vz) : List Vz → Bool
  | [] => false
  | u :: l => Vz.beq v u || anyBeq v l
noncomputable def once : List Vz → List Vz
  | [] => []
  | v :: l => cond (anyBeq v l) (once l) (v :: once l)

theorem anyBeq_mem {v : Vz} : ∀ {l : List Vz}, anyBeq v l = true → v ∈ l
  | u :: l, h => by
    simp only [anyBeq, Bool.or_eq_true] at h
    exact h.elim (fun h => by rw [Vz.beq_eq h]; exact .head _) fun h => .tail _ (anyBeq_mem h)

theorem once_mem {v : Vz} : ∀ {l : List Vz}, v ∈ l → v ∈ once l
  | u :: l, h => by
    simp only [once]
    cases ha : anyBeq u l with
    | true =>
      cases h with
      | head => exact once_mem (anyBeq_mem ha)
      | tail _ h => exact once_mem h
    | false =>
      cases h with
      | head => exact .head _
      | tail _ h => exact .tail _ (once_mem h)

noncomputable def slimVs (l : List Vc) : List Vz := once (l.map fun v => slim (normVc v))

/-- all leaves, each once -/
theorem owes_slim {base : Nat} {rng0 : List (Int × Int)} {J0 : (Nat → Int) → Prop} {J Jx : (Nat → Int) → (Nat → Int) → Prop} {p : Pc} {o : Option (List Vc)} {lz : List Vz} (he : o.map slimVs = some lz)
    (h : ∀ v ∈ lz, ∀ ρ, J0 ρ → PcR ρ p → factsZ ρ v.cs → rngP ρ 0 v.rng → OwesZ base rng0 (J ρ) (Jx ρ) ρ v) :
    ∃ l, o = some l ∧ ∀ v ∈ l, ∀ ρ, J0 ρ → PcR ρ p → PcR ρ v.q → Owes base ⟨[], rng0⟩ (J ρ) (Jx ρ) ρ v := by
  obtain ⟨l, h1, rfl⟩ := Option.map_eq_some_iff.1 he
  exact ⟨l, h1, fun v hv ρ hJ hp hq => owes_of hq fun hf hr =>
    h (slim (normVc v)) (once_mem (List.mem_map_of_mem (f := fun v => slim (normVc v)) hv)) ρ hJ hp (slimF_ok hf) hr⟩

/-- every leaf is one of the list -/
noncomputable def allIn (lz : List Vz) : List Vc → Bool
  | [] => true
  | v :: l => anyBeq (slim (normVc v)) lz && allIn lz l
noncomputable def leavesIn (lz : List Vz) (o : Option (List Vc)) : Bool :=
  match o with
  | none => false
  | some l => allIn lz l

theorem allIn_mem {lz : List Vz} {v : Vc} : ∀ {l : List Vc}, allIn lz l = true → v ∈ l → slim (normVc v) ∈ lz
  | u :: l, h, hv => by
    simp only [allIn, Bool.and_eq_true] at h
    cases hv with
    | head => exact anyBeq_mem h.1
    | tail _ hv => exact allIn_mem h.2 hv

/-- all leaves, by a list that holds them -/
theorem owes_in {base : Nat} {rng0 : List (Int × Int)} {J0 : (Nat → Int) → Prop} {J Jx : (Nat → Int) → (Nat → Int) → Prop} {p : Pc} {o : Option (List Vc)} {lz : List Vz} (he : leavesIn lz o = true)
    (h : ∀ v ∈ lz, ∀ ρ, J0 ρ → PcR ρ p → factsZ ρ v.cs → rngP ρ 0 v.rng → OwesZ base rng0 (J ρ) (Jx ρ) ρ v) :
    ∃ l, o = some l ∧ ∀ v ∈ l, ∀ ρ, J0 ρ → PcR ρ p → PcR ρ v.q → Owes base ⟨[], rng0⟩ (J ρ) (Jx ρ) ρ v := by
  cases o with
  | none => exact (Bool.false_ne_true he).elim
  | some l => exact ⟨l, rfl, fun v hv ρ hJ hp hq => owes_of hq fun hf hr => h (slim (normVc v)) (allIn_mem he hv) ρ hJ hp (slimF_ok hf) hr⟩

end Go.Sy
