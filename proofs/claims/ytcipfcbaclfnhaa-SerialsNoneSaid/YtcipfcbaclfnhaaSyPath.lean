/-
  What is proved here: a code up to a place inside it.
  Conditions: none.
-/
import Derived.Test.YtcipfcbaclfnhaaSyLoop
namespace Go.Sy
open Go.RowKit (Below)

/-- a step into a code: the first, or the second of two; into a block -/
inductive Dir where
  | l
  | r
  | b

def cL : Code → Code
  | .seq a _ => a
  | _ => .skip
def cR : Code → Code
  | .seq _ b => b
  | _ => .skip
def cB : Code → Code
  | .block _ a => a
  | _ => .skip
def cId : Code → Nat
  | .block id _ => id
  | _ => 0
def cLoop : Code → Code
  | .loop a => a
  | _ => .skip
def isSeq : Code → Bool
  | .seq _ _ => true
  | _ => false
def isBlock : Code → Bool
  | .block _ _ => true
  | _ => false

/-- the place -/
def place : List Dir → Code → Code
  | [], c => c
  | .l :: d, c => place d (cL c)
  | .r :: d, c => place d (cR c)
  | .b :: d, c => place d (cB c)

/-- what is asked at the place -/
def placeWp (P : Program) : List Dir → Code → (Exit → Act → World → Prop) → Act → World → Prop
  | [], c, Q => c.wp P Q
  | .l :: d, c, Q => placeWp P d (cL c) (Exit.then ((cR c).wp P Q) Q)
  | .r :: d, c, Q => placeWp P d (cR c) Q
  | .b :: d, c, Q => placeWp P d (cB c) (Exit.inBlock (cId c) Q)

/-- up to the place: 'none': there -/
noncomputable def evPath (P : Program) (cf : FuncId → List V → M V) (it n : Nat) : List Dir → Code → Env → M XO
  | [], _, env => M.pure ⟨none, env⟩
  | .l :: d, c, env => selB (isSeq c) ((evPath P cf it n d (cL c) env).bnd fun r => onXO r fun x _ => (Option.rec (motive := fun _ => M XO) (M.pure r) (fun x => (X.rec (motive := fun _ => M XO) (M.fail "past the place") (fun _ => M.pure r) (M.pure r) (fun _ => M.pure r) (x))) (x))) (M.fail "no such place")
  | .r :: d, c, env => selB (isSeq c) ((evCode (cL c) P cf it n env).bnd fun r => onXE r fun x e => (X.rec (motive := fun _ => M XO) (evPath P cf it n d (cR c) e) (fun _ => M.pure ⟨some x, e⟩) (M.pure ⟨some x, e⟩) (fun _ => M.pure ⟨some x, e⟩) (x))) (M.fail "no such place")
  | .b :: d, c, env => selB (isBlock c) ((evPath P cf it n d (cB c) env).bnd fun r => onXO r fun x _ => (Option.rec (motive := fun _ => M XO) (M.pure r) (fun x => (X.rec (motive := fun _ => M XO) (M.fail "past the place") (fun i => selB (Nat.beq i (cId c)) (M.fail "past the place") (M.pure r)) (M.pure r) (fun _ => M.pure r) (x))) (x))) (M.fail "no such place")

theorem path_ok {P : Program} {ρ : Nat → Int} (hM : P.follows .mixedOrders = true) {cf : FuncId → List V → M V} (hcf : CallsOK P ρ cf) (it n : Nat) : ∀ (d : List Dir) (co : Code), codeRegs co = true →
    ∀ {c : Cx} {m m' : Mem} {w : World} {p q : Pc} {env : Env} {r : XO} {a : Act}, c.ρ = ρ → MemR c m w → PcR c.ρ p → EnvR c n env a → (evPath P cf it n d co env).gives c.ρ m p r m' q →
    ∀ (Q : Exit → Act → World → Prop), (∀ a' w', PcR c.ρ q → After c m w m' n r.env a a' w' → match r.x with | none => placeWp P d co Q a' w' | some x => Q (exitOf x) a' w') → co.wp P Q a w
  | [], co, _, c, m, m', w, p, q, env, r, a, hρ, hm, hp, he, h, Q, hQ => by
    obtain ⟨rfl, rfl, rfl⟩ := M.gives_pure (show (M.pure (⟨none, env⟩ : XO)).gives c.ρ m p r m' q from h)
    exact hQ a w hp ⟨c, Step.refl hm, he, rfl⟩
  | .l :: d, co, hR, c, m, m', w, p, q, env, r, a, hρ, hm, hp, he, h, Q, hQ => by
    obtain ⟨h1, h2⟩ := M.gives_if (show (selB (isSeq co) ((evPath P cf it n d (cL co) env).bnd fun r => onXO r fun x _ => (Option.rec (M.pure r) (fun x => X.rec (M.fail "past the place") (fun _ => M.pure r) (M.pure r) (fun _ => M.pure r) x) x : M XO)) (M.fail "no such place")).gives c.ρ m p r m' q from h)
    cases co <;> try exact (Bool.false_ne_true h1).elim
    rename_i x y
    obtain ⟨hR1, _⟩ := Bool.and_eq_true_iff.1 (show (codeRegs x && codeRegs y) = true from hR)
    obtain ⟨r0, m1, p1, h3, h4⟩ := M.gives_bnd h2
    refine wp_seq (path_ok hM hcf it n d x hR1 hρ hm hp he h3 _ fun a1 w1 hp1 hA => ?_)
    obtain ⟨z, env1⟩ := r0
    cases z with
    | none =>
      obtain ⟨rfl, rfl, rfl⟩ := M.gives_pure (show (M.pure (⟨none, env1⟩ : XO)).gives c.ρ m1 p1 r m' q from h4)
      exact hQ a1 w1 hp1 hA
    | some z =>
      cases z with
      | normal => exact (M.gives_fail (s := "past the place") h4).elim
      | exit i =>
        obtain ⟨rfl, rfl, rfl⟩ := M.gives_pure (show (M.pure (⟨some (.exit i), env1⟩ : XO)).gives c.ρ m1 p1 r m' q from h4)
        exact hQ a1 w1 hp1 hA
      | ret =>
        obtain ⟨rfl, rfl, rfl⟩ := M.gives_pure (show (M.pure (⟨some .ret, env1⟩ : XO)).gives c.ρ m1 p1 r m' q from h4)
        exact hQ a1 w1 hp1 hA
      | goto l =>
        obtain ⟨rfl, rfl, rfl⟩ := M.gives_pure (show (M.pure (⟨some (.goto l), env1⟩ : XO)).gives c.ρ m1 p1 r m' q from h4)
        exact hQ a1 w1 hp1 hA
  | .r :: d, co, hR, c, m, m', w, p, q, env, r, a, hρ, hm, hp, he, h, Q, hQ => by
    obtain ⟨h1, h2⟩ := M.gives_if (show (selB (isSeq co) ((evCode (cL co) P cf it n env).bnd fun r => onXE r fun x e => (X.rec (evPath P cf it n d (cR co) e) (fun _ => M.pure ⟨some x, e⟩) (M.pure ⟨some x, e⟩) (fun _ => M.pure ⟨some x, e⟩) x : M XO)) (M.fail "no such place")).gives c.ρ m p r m' q from h)
    cases co <;> try exact (Bool.false_ne_true h1).elim
    rename_i x y
    obtain ⟨hR1, hR2⟩ := Bool.and_eq_true_iff.1 (show (codeRegs x && codeRegs y) = true from hR)
    obtain ⟨r0, m1, p1, h3, h4⟩ := M.gives_bnd h2
    refine wp_seq (evCode_ok hM hcf it x hR1 hρ hm hp he h3 _ fun a1 w1 hp1 hA => ?_)
    obtain ⟨z, env1⟩ := r0
    cases z with
    | normal =>
      obtain ⟨c1, s1, he1, hd⟩ := hA
      have hr := s1.le.ρ
      exact path_ok hM hcf it n d y hR2 (hr.trans hρ) s1.rel (by rw [hr]; exact hp1) he1 (by rw [hr]; exact h4) Q fun a2 w2 hq hA2 => hQ a2 w2 (by rw [← hr]; exact hq) (hA2.trans s1 hd)
    | exit i =>
      obtain ⟨rfl, rfl, rfl⟩ := M.gives_pure (show (M.pure (⟨some (.exit i), env1⟩ : XO)).gives c.ρ m1 p1 r m' q from h4)
      exact hQ a1 w1 hp1 hA
    | ret =>
      obtain ⟨rfl, rfl, rfl⟩ := M.gives_pure (show (M.pure (⟨some .ret, env1⟩ : XO)).gives c.ρ m1 p1 r m' q from h4)
      exact hQ a1 w1 hp1 hA
    | goto l =>
      obtain ⟨rfl, rfl, rfl⟩ := M.gives_pure (show (M.pure (⟨some (.goto l), env1⟩ : XO)).gives c.ρ m1 p1 r m' q from h4)
      exact hQ a1 w1 hp1 hA
  | .b :: d, co, hR, c, m, m', w, p, q, env, r, a, hρ, hm, hp, he, h, Q, hQ => by
    obtain ⟨h1, h2⟩ := M.gives_if (show (selB (isBlock co) ((evPath P cf it n d (cB co) env).bnd fun r => onXO r fun x _ => (Option.rec (M.pure r) (fun x => X.rec (M.fail "past the place") (fun i => selB (Nat.beq i (cId co)) (M.fail "past the place") (M.pure r)) (M.pure r) (fun _ => M.pure r) x) x : M XO)) (M.fail "no such place")).gives c.ρ m p r m' q from h)
    cases co <;> try exact (Bool.false_ne_true h1).elim
    rename_i id x
    obtain ⟨r0, m1, p1, h3, h4⟩ := M.gives_bnd h2
    refine wp_block (path_ok hM hcf it n d x hR hρ hm hp he h3 _ fun a1 w1 hp1 hA => ?_)
    obtain ⟨z, env1⟩ := r0
    cases z with
    | none =>
      obtain ⟨rfl, rfl, rfl⟩ := M.gives_pure (show (M.pure (⟨none, env1⟩ : XO)).gives c.ρ m1 p1 r m' q from h4)
      exact hQ a1 w1 hp1 hA
    | some z =>
      cases z with
      | normal => exact (M.gives_fail (s := "past the place") h4).elim
      | exit i =>
        have h4 : (selB (Nat.beq i id) (M.fail "past the place") (M.pure (⟨some (.exit i), env1⟩ : XO))).gives c.ρ m1 p1 r m' q := h4
        cases hb : Nat.beq i id with
        | true => rw [hb] at h4; exact (M.gives_fail (s := "past the place") h4).elim
        | false =>
          rw [hb] at h4
          obtain ⟨rfl, rfl, rfl⟩ := M.gives_pure h4
          have hq := hQ a1 w1 hp1 hA
          rw [beq_false] at hb
          show Exit.inBlock id Q (.exit i) a1 w1
          simp only [Exit.inBlock, if_neg hb]; exact hq
      | ret =>
        obtain ⟨rfl, rfl, rfl⟩ := M.gives_pure (show (M.pure (⟨some .ret, env1⟩ : XO)).gives c.ρ m1 p1 r m' q from h4)
        exact hQ a1 w1 hp1 hA
      | goto l =>
        obtain ⟨rfl, rfl, rfl⟩ := M.gives_pure (show (M.pure (⟨some (.goto l), env1⟩ : XO)).gives c.ρ m1 p1 r m' q from h4)
        exact hQ a1 w1 hp1 hA

/-- a leaf at the place, as one that has come to its end -/
noncomputable def headX (r : XO) : M XE := onXO r fun x env => (Option.rec (motive := fun _ => M XE) (M.pure ⟨.normal, env⟩) (fun x => (X.rec (motive := fun _ => M XE) (M.fail "past the place") (fun _ => M.pure ⟨x, env⟩) (M.pure ⟨x, env⟩) (fun _ => M.pure ⟨x, env⟩) (x))) (x))

noncomputable def evHead (P : Program) (cf : FuncId → List V → M V) (it n : Nat) (d : List Dir) (co : Code) (env : Env) : M XE := (evPath P cf it n d co env).bnd headX

section piece
variable {P : Program} {cf : FuncId → List V → M V} {W0 : World} {J : (Nat → Int) → Prop} {m : Mem} {n : Nat} {env : Env} {p : Pc} {a : Act} {w : World} {Q : Exit → Act → World → Prop}

/-- a code up to a place ('normal': there) -/
theorem head_ok (hM : P.follows .mixedOrders = true) (hcf : ∀ ρ, CallsOK P ρ cf) {d : List Dir} {co : Code} (hR : codeRegs co = true) {it : Nat} (hA : At W0 J m n env p a w)
    (h : ∀ ρ, J ρ → PcR ρ p → ∃ r m' q, (evHead P cf it n d co env m p).out ρ = some ⟨r, m', q⟩ ∧ ∀ a' w', At W0 (fun ρ' => ρ' = ρ) m' n r.env q a' w' →
      match r.x with
      | .normal => placeWp P d co Q a' w'
      | x => Q (exitOf x) a' w') : co.wp P Q a w := by
  obtain ⟨c, hJ, hm, hp, he, hd, hb, hw⟩ := hA
  obtain ⟨r, m', q, ho, hq⟩ := h c.ρ hJ hp
  obtain ⟨r0, m1, p1, h1, h2⟩ := M.gives_bnd (show ((evPath P cf it n d co env).bnd headX).gives c.ρ m p r m' q from ho)
  refine path_ok hM (hcf c.ρ) it n d co hR rfl hm hp he h1 Q fun a' w' hpq hAf => ?_
  obtain ⟨c', s, he', hd'⟩ := hAf
  obtain ⟨k1, k2⟩ := below_step hb hw s
  obtain ⟨z, env1⟩ := r0
  cases z with
  | none =>
    obtain ⟨rfl, rfl, rfl⟩ := M.gives_pure (show (M.pure (⟨.normal, env1⟩ : XE)).gives c.ρ m1 p1 r m' q from h2)
    exact hq a' w' ⟨c', s.le.ρ, s.rel, by rw [s.le.ρ]; exact hpq, he', hd'.trans hd, k1, k2⟩
  | some z =>
    cases z with
    | normal => exact (M.gives_fail (s := "past the place") h2).elim
    | exit i =>
      obtain ⟨rfl, rfl, rfl⟩ := M.gives_pure (show (M.pure (⟨.exit i, env1⟩ : XE)).gives c.ρ m1 p1 r m' q from h2)
      exact hq a' w' ⟨c', s.le.ρ, s.rel, by rw [s.le.ρ]; exact hpq, he', hd'.trans hd, k1, k2⟩
    | ret =>
      obtain ⟨rfl, rfl, rfl⟩ := M.gives_pure (show (M.pure (⟨.ret, env1⟩ : XE)).gives c.ρ m1 p1 r m' q from h2)
      exact hq a' w' ⟨c', s.le.ρ, s.rel, by rw [s.le.ρ]; exact hpq, he', hd'.trans hd, k1, k2⟩
    | goto l =>
      obtain ⟨rfl, rfl, rfl⟩ := M.gives_pure (show (M.pure (⟨.goto l, env1⟩ : XE)).gives c.ρ m1 p1 r m' q from h2)
      exact hq a' w' ⟨c', s.le.ρ, s.rel, by rw [s.le.ρ]; exact hpq, he', hd'.trans hd, k1, k2⟩
end piece

end Go.Sy
