/-
  What is proved here: the laws of the evaluator's trie and trees; the relation between its values and memory and those of the model.
  Conditions: none.
-/
import Derived.Test.YtcipfcbaclfnhaaSyRel
namespace Go.Sy

/-! ### the trie -/

section trie
variable {α : Type}

def pick4 (d : Nat) (t0 t1 t2 t3 : Tr α) : Tr α := if d = 0 then t0 else if d = 1 then t1 else if d = 2 then t2 else t3

theorem lt4 (k : Nat) : k % 4 = 0 ∨ k % 4 = 1 ∨ k % 4 = 2 ∨ k % 4 = 3 := by omega

theorem Tr.get_nil (j : Nat) : (Tr.nil : Tr α).get j = none := rfl
theorem Tr.get_zero (v : Option α) (t0 t1 t2 t3 : Tr α) : (Tr.node v t0 t1 t2 t3).get 0 = v := rfl

theorem Tr.get_succ (v : Option α) (t0 t1 t2 t3 : Tr α) (j : Nat) : (Tr.node v t0 t1 t2 t3).get (j + 1) = (pick4 (j % 4) t0 t1 t2 t3).get (j / 4) := by
  show (Bool.rec (Bool.rec (t3.get (Nat.div j 4)) (t2.get (Nat.div j 4)) (Nat.beq (Nat.mod j 4) 2)) (Bool.rec (t1.get (Nat.div j 4)) (t0.get (Nat.div j 4)) (Nat.beq (Nat.mod j 4) 0)) (Nat.blt (Nat.mod j 4) 2) : Option α) = _
  show (Bool.rec (Bool.rec (t3.get (j / 4)) (t2.get (j / 4)) (Nat.beq (j % 4) 2)) (Bool.rec (t1.get (j / 4)) (t0.get (j / 4)) (Nat.beq (j % 4) 0)) (Nat.blt (j % 4) 2) : Option α) = _
  rcases lt4 j with h | h | h | h <;> rw [h] <;> rfl

/-- the same trie, open at its head -/
theorem Tr.open_get (t : Tr α) (j : Nat) : t.open.get j = t.get j := by
  cases t with
  | nil =>
    show (Tr.node none .nil .nil .nil .nil : Tr α).get j = none
    cases j with
    | zero => rfl
    | succ j => rw [Tr.get_succ]; rcases lt4 j with h | h | h | h <;> rw [h] <;> rfl
  | node => rfl

theorem Tr.setF_get : ∀ (f : Nat) (v : Option α) (t : Tr α) (k j : Nat), k < f → (Tr.setF f v t k).get j = if j = k then v else t.get j
  | 0, _, _, _, _, h => absurd h (by omega)
  | f + 1, v, t, k, j, h => by
    rw [← Tr.open_get t]
    have ho : ∃ u t0 t1 t2 t3, t.open = .node u t0 t1 t2 t3 := by cases t <;> exact ⟨_, _, _, _, _, rfl⟩
    obtain ⟨u, t0, t1, t2, t3, ho⟩ := ho
    have hs : Tr.setF (f + 1) v t k = Tr.rec (motive := fun _ => Tr α) .nil
      (fun u t0 t1 t2 t3 _ _ _ _ => Nat.rec (.node v t0 t1 t2 t3) (fun k _ => Bool.rec
        (Bool.rec (.node u t0 t1 t2 (Tr.setF f v t3 (Nat.div k 4))) (.node u t0 t1 (Tr.setF f v t2 (Nat.div k 4)) t3) (Nat.beq (Nat.mod k 4) 2))
        (Bool.rec (.node u t0 (Tr.setF f v t1 (Nat.div k 4)) t2 t3) (.node u (Tr.setF f v t0 (Nat.div k 4)) t1 t2 t3) (Nat.beq (Nat.mod k 4) 0)) (Nat.blt (Nat.mod k 4) 2)) k)
      t.open := rfl
    rw [hs, ho]
    clear hs ho
    cases k with
    | zero =>
      show (Tr.node v t0 t1 t2 t3).get j = _
      cases j with
      | zero => simp [Tr.get_zero]
      | succ j => simp [Tr.get_succ]
    | succ k =>
      show (Bool.rec
        (Bool.rec (.node u t0 t1 t2 (Tr.setF f v t3 (k / 4))) (.node u t0 t1 (Tr.setF f v t2 (k / 4)) t3) (Nat.beq (k % 4) 2))
        (Bool.rec (.node u t0 (Tr.setF f v t1 (k / 4)) t2 t3) (.node u (Tr.setF f v t0 (k / 4)) t1 t2 t3) (Nat.beq (k % 4) 0)) (Nat.blt (k % 4) 2) : Tr α).get j = _
      have hk : k / 4 < f := by omega
      cases j with
      | zero =>
        rw [Tr.get_zero, if_neg (by omega)]
        rcases lt4 k with h | h | h | h <;> rw [h] <;> rfl
      | succ j =>
        rw [Tr.get_succ]
        have hjk : (j + 1 = k + 1) ↔ (j % 4 = k % 4 ∧ j / 4 = k / 4) := by omega
        rcases lt4 k with h | h | h | h <;> rw [h]
        · show (Tr.node u (Tr.setF f v t0 (k / 4)) t1 t2 t3).get (j + 1) = _
          rw [Tr.get_succ]
          rcases lt4 j with h' | h' | h' | h' <;> rw [h']
          · show (Tr.setF f v t0 (k / 4)).get (j / 4) = if j + 1 = k + 1 then v else t0.get (j / 4)
            rw [Tr.setF_get f v t0 (k / 4) (j / 4) hk]; by_cases e : j / 4 = k / 4 <;> simp [e, show (j = k) = (j % 4 = k % 4 ∧ j / 4 = k / 4) from by rw [eq_iff_iff]; omega, h, h']
          all_goals (rw [if_neg (by omega)]; rfl)
        · show (Tr.node u t0 (Tr.setF f v t1 (k / 4)) t2 t3).get (j + 1) = _
          rw [Tr.get_succ]
          rcases lt4 j with h' | h' | h' | h' <;> rw [h']
          rotate_left
          · show (Tr.setF f v t1 (k / 4)).get (j / 4) = if j + 1 = k + 1 then v else t1.get (j / 4)
            rw [Tr.setF_get f v t1 (k / 4) (j / 4) hk]; by_cases e : j / 4 = k / 4 <;> simp [e, show (j = k) = (j % 4 = k % 4 ∧ j / 4 = k / 4) from by rw [eq_iff_iff]; omega, h, h']
          all_goals (rw [if_neg (by omega)]; rfl)
        · show (Tr.node u t0 t1 (Tr.setF f v t2 (k / 4)) t3).get (j + 1) = _
          rw [Tr.get_succ]
          rcases lt4 j with h' | h' | h' | h' <;> rw [h']
          rotate_left 2
          · show (Tr.setF f v t2 (k / 4)).get (j / 4) = if j + 1 = k + 1 then v else t2.get (j / 4)
            rw [Tr.setF_get f v t2 (k / 4) (j / 4) hk]; by_cases e : j / 4 = k / 4 <;> simp [e, show (j = k) = (j % 4 = k % 4 ∧ j / 4 = k / 4) from by rw [eq_iff_iff]; omega, h, h']
          all_goals (rw [if_neg (by omega)]; rfl)
        · show (Tr.node u t0 t1 t2 (Tr.setF f v t3 (k / 4))).get (j + 1) = _
          rw [Tr.get_succ]
          rcases lt4 j with h' | h' | h' | h' <;> rw [h']
          rotate_left 3
          · show (Tr.setF f v t3 (k / 4)).get (j / 4) = if j + 1 = k + 1 then v else t3.get (j / 4)
            rw [Tr.setF_get f v t3 (k / 4) (j / 4) hk]; by_cases e : j / 4 = k / 4 <;> simp [e, show (j = k) = (j % 4 = k % 4 ∧ j / 4 = k / 4) from by rw [eq_iff_iff]; omega, h, h']
          all_goals (rw [if_neg (by omega)]; rfl)

theorem Tr.get_set (t : Tr α) (k j : Nat) (v : α) : (t.set k v).get j = if j = k then some v else t.get j := Tr.setF_get _ _ t k j (Nat.lt_succ_self k)
theorem Tr.get_del (t : Tr α) (k j : Nat) : (t.del k).get j = if j = k then none else t.get j := Tr.setF_get _ _ t k j (Nat.lt_succ_self k)
end trie

/-! ### trees of outcomes, at one valuation -/

noncomputable def T.out {α : Type} (ρ : Nat → Int) : T α → Option α
  | .ret a => some a
  | .br c x y => if c.den ρ then x.out ρ else y.out ρ
  | .fail _ => none

theorem T.out_bnd {α β : Type} (ρ : Nat → Int) (f : α → Mem → Pc → T β) : ∀ (t : T (Rs α)), (t.bnd f).out ρ = (t.out ρ).bind fun a => (f a.v a.m a.p).out ρ
  | .ret a => by cases a; rfl
  | .br c x y => by
    show (T.br c (x.bnd f) (y.bnd f)).out ρ = _
    simp only [T.out, T.out_bnd ρ f x, T.out_bnd ρ f y]
    split <;> rfl
  | .fail _ => rfl

theorem T.out_bndp {α β : Type} (ρ : Nat → Int) (f : α → Pc → T β) : ∀ (t : T (Rp α)), (t.bndp f).out ρ = (t.out ρ).bind fun a => (f a.v a.p).out ρ
  | .ret a => by cases a; rfl
  | .br c x y => by
    show (T.br c (x.bndp f) (y.bndp f)).out ρ = _
    simp only [T.out, T.out_bndp ρ f x, T.out_bndp ρ f y]
    split <;> rfl
  | .fail _ => rfl

/-- 'x' reads, and gives 'v', the path then being 'q' -/
def R.gives {α : Type} (ρ : Nat → Int) (x : R α) (m : Mem) (p : Pc) (v : α) (q : Pc) : Prop := (x m p).out ρ = some ⟨v, q⟩
/-- 'x' gives 'v', the memory then being 'm'', the path 'q' -/
def M.gives {α : Type} (ρ : Nat → Int) (x : M α) (m : Mem) (p : Pc) (v : α) (m' : Mem) (q : Pc) : Prop := (x m p).out ρ = some ⟨v, m', q⟩

section gives
variable {α β : Type} {ρ : Nat → Int} {m m' : Mem} {p q : Pc}

theorem R.gives_pure {a v : α} (h : (R.pure a).gives ρ m p v q) : v = a ∧ q = p := by
  simp [R.gives, R.pure, T.out] at h; exact ⟨h.1.symm, h.2.symm⟩

theorem R.gives_fail {s : String} {v : α} (h : (R.fail s : R α).gives ρ m p v q) : False := by
  simp [R.gives, R.fail, T.out] at h

theorem R.gives_bnd {x : R α} {f : α → R β} {v : β} (h : (x.bnd f).gives ρ m p v q) : ∃ a p', x.gives ρ m p a p' ∧ (f a).gives ρ m p' v q := by
  obtain ⟨⟨a, p'⟩, h1, h2⟩ := Option.bind_eq_some_iff.1 ((T.out_bndp ρ (fun v p => f v m p) (x m p)).symm.trans h)
  exact ⟨a, p', h1, h2⟩

theorem R.gives_opt {s : String} {x : Option α} {v : α} (h : (R.opt s x).gives ρ m p v q) : x = some v ∧ q = p := by
  cases x with
  | none => exact (R.gives_fail h).elim
  | some a => obtain ⟨rfl, rfl⟩ := R.gives_pure h; exact ⟨rfl, rfl⟩

theorem M.gives_pure {a v : α} (h : (M.pure a).gives ρ m p v m' q) : v = a ∧ m' = m ∧ q = p := by
  simp [M.gives, M.pure, T.out] at h; exact ⟨h.1.symm, h.2.1.symm, h.2.2.symm⟩

theorem M.gives_fail {s : String} {v : α} (h : (M.fail s : M α).gives ρ m p v m' q) : False := by
  simp [M.gives, M.fail, T.out] at h

theorem M.gives_bnd {x : M α} {f : α → M β} {v : β} (h : (x.bnd f).gives ρ m p v m' q) : ∃ a m1 p1, x.gives ρ m p a m1 p1 ∧ (f a).gives ρ m1 p1 v m' q := by
  obtain ⟨⟨a, m1, p1⟩, h1, h2⟩ := Option.bind_eq_some_iff.1 ((T.out_bnd ρ (fun a m p => f a m p) (x m p)).symm.trans h)
  exact ⟨a, m1, p1, h1, h2⟩

theorem R.gives_thn {x : R α} {f : α → M β} {v : β} (h : (x.thn f).gives ρ m p v m' q) : ∃ a p1, x.gives ρ m p a p1 ∧ (f a).gives ρ m p1 v m' q := by
  obtain ⟨⟨a, p1⟩, h1, h2⟩ := Option.bind_eq_some_iff.1 ((T.out_bndp ρ (fun v p => f v m p) (x m p)).symm.trans h)
  exact ⟨a, p1, h1, h2⟩

theorem R.gives_selB {c : Bool} {x y : R α} {v : α} (h : (selB c x y).gives ρ m p v q) : (c = true ∧ x.gives ρ m p v q) ∨ (c = false ∧ y.gives ρ m p v q) := by
  cases c
  · exact .inr ⟨rfl, h⟩
  · exact .inl ⟨rfl, h⟩

/-- the usual test: the other way fails -/
theorem R.gives_if {c : Bool} {x : R α} {s : String} {v : α} (h : (selB c x (R.fail s)).gives ρ m p v q) : c = true ∧ x.gives ρ m p v q := by
  rcases R.gives_selB h with h | h
  · exact h
  · exact (R.gives_fail h.2).elim

theorem M.gives_if {c : Bool} {x : M α} {s : String} {v : α} (h : (selB c x (M.fail s)).gives ρ m p v m' q) : c = true ∧ x.gives ρ m p v m' q := by
  cases c
  · exact (M.gives_fail h).elim
  · exact ⟨rfl, h⟩

theorem decR_gives (hp : PcR ρ p) {c : B} {v : Bool} (h : (decR c).gives ρ m p v q) : c.den ρ = v ∧ PcR ρ q := by
  have key : ∀ c : B, (decS c).gives ρ m p v q → c.den ρ = v ∧ PcR ρ q := by
    intro c h
    unfold R.gives decS at h
    split at h
    · rename_i u hu
      simp [T.out] at h; obtain ⟨rfl, rfl⟩ := h
      exact ⟨decE_ok hp hu, hp⟩
    · simp only [T.out] at h
      split at h
      · rename_i hd; simp at h; obtain ⟨rfl, rfl⟩ := h; exact ⟨hd, Pc.add_ok hp hd⟩
      · rename_i hd; simp at h; obtain ⟨rfl, rfl⟩ := h
        have hd' : c.den ρ = false := by simpa using hd
        exact ⟨hd', Pc.add_ok hp hd'⟩
  cases c with
  | lit u => obtain ⟨rfl, rfl⟩ := R.gives_pure (show (R.pure u).gives ρ m p v q from h); exact ⟨rfl, hp⟩
  | lt a b => exact key _ h
  | eq a b => exact key _ h
  | not a => exact key _ h

theorem litS_gives (hp : PcR ρ p) {e : E} {z : Int} (h : (litS e).gives ρ m p z q) : e.den ρ = z ∧ q = p := by
  unfold R.gives litS at h
  split at h
  · rename_i lo hi hiv
    cases hc : eqZ lo hi <;> simp [hc, T.out] at h
    obtain ⟨rfl, rfl⟩ := h
    rw [eqZ_iff] at hc
    have := E.iv_in hp.rng hiv
    exact ⟨by omega, rfl⟩
  · simp [T.out] at h

theorem litR_gives (hp : PcR ρ p) {e : E} {z : Int} (h : (litR e).gives ρ m p z q) : e.den ρ = z ∧ q = p := by
  cases e with
  | n x => obtain ⟨rfl, rfl⟩ := R.gives_pure (show (R.pure x).gives ρ m p z q from h); exact ⟨rfl, rfl⟩
  | x i => exact litS_gives hp h
  | bin op k a b => exact litS_gives hp h
  | cv k a => exact litS_gives hp h
  | rd a r lo hi e => exact litS_gives hp h
  | tab l lo hi e => exact litS_gives hp h

theorem natZ_gives {z : Int} {n : Nat} (h : (natZ z).gives ρ m p n q) : z = (n : Int) ∧ q = p := by
  cases z with
  | ofNat k => obtain ⟨rfl, rfl⟩ := R.gives_pure (show (R.pure k).gives ρ m p n q from h); exact ⟨rfl, rfl⟩
  | negSucc k => exact (R.gives_fail h).elim

theorem natR_gives (hp : PcR ρ p) {e : E} {n : Nat} (h : (natR e).gives ρ m p n q) : e.den ρ = (n : Int) ∧ q = p := by
  have key : ∀ e : E, ((litS e).bnd natZ).gives ρ m p n q → e.den ρ = (n : Int) ∧ q = p := by
    intro e h
    obtain ⟨z, p', h1, h2⟩ := R.gives_bnd h
    obtain ⟨rfl, rfl⟩ := litS_gives hp h1
    exact natZ_gives h2
  cases e with
  | n x => exact natZ_gives (show (natZ x).gives ρ m p n q from h)
  | x i => exact key _ h
  | bin op k a b => exact key _ h
  | cv k a => exact key _ h
  | rd a r lo hi e => exact key _ h
  | tab l lo hi e => exact key _ h
end gives

end Go.Sy
