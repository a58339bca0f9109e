/-
  What is proved here: the evaluator's code and calls are the model's.
  Conditions: none.
-/
import Derived.Test.YtcipfcbaclfnhaaSyDraw5
import Derived.Scope
namespace Go.Sy

/-- from a loop's round on -/
def RoundWp (P : Program) (c : Code) (Q : Exit → Act → World → Prop) (a : Act) (w : World) : Prop :=
  ∀ (b : Frame) (k : List Item) (cs : List Frame), ∃ e a' w', Q e a' w' ∧ Arrives P (lone (b.at a (.code c :: .inLoop c :: k)) cs w) b k cs e a' w'

theorem RoundWp.round {P : Program} {c : Code} {Q : Exit → Act → World → Prop} {a : Act} {w : World} (h : c.wp P (Exit.then (RoundWp P c Q) Q) a w) : RoundWp P c Q a w := by
  intro b k cs
  obtain ⟨e, a₁, w₁, hq, harr⟩ := h b (.inLoop c :: k) cs
  cases e with
  | normal =>
    obtain ⟨e₂, a₂, w₂, hq₂, harr₂⟩ := hq b k cs
    exact ⟨e₂, a₂, w₂, hq₂, .of_steps (Steps.trans harr (.one step_inLoop)) harr₂⟩
  | exit id => exact ⟨_, a₁, w₁, hq, .pass (x := .inLoop c) rfl (fun _ _ => .inl (by simp)) harr⟩
  | goto l => exact ⟨_, a₁, w₁, hq, .pass (x := .inLoop c) rfl (fun _ _ => .inl (by simp)) harr⟩
  | ret => exact ⟨_, a₁, w₁, hq, .pass (x := .inLoop c) rfl (fun _ _ => .inl (by simp)) harr⟩
  | panic ch => exact ⟨_, a₁, w₁, hq, .pass (x := .inLoop c) rfl (fun _ _ => .inl (by simp)) harr⟩
  | outgrown => exact ⟨_, a₁, w₁, hq, .pass (x := .inLoop c) rfl (fun _ _ => .inl (by simp)) harr⟩

theorem RoundWp.loop {P : Program} {c : Code} {Q : Exit → Act → World → Prop} {a : Act} {w : World} (h : RoundWp P c Q a w) : (Code.loop c).wp P Q a w := by
  intro b k cs
  obtain ⟨e, a', w', hq, harr⟩ := h b k cs
  exact ⟨e, a', w', hq, .of_steps (.one step_loop) harr⟩

def exitOf : X → Exit
  | .normal => .normal
  | .exit id => .exit id
  | .ret => .ret
  | .goto l => .goto l

/-- the code does what the evaluator says -/
def CodeOK (P : Program) (ρ : Nat → Int) (n : Nat) (code : Code) (ev : Env → M XE) : Prop :=
  ∀ ⦃c : Cx⦄ ⦃m m' : Mem⦄ ⦃w : World⦄ ⦃p q : Pc⦄ ⦃env : Env⦄ ⦃r : XE⦄ ⦃a : Act⦄, c.ρ = ρ → MemR c m w → PcR c.ρ p → EnvR c n env a → (ev env).gives c.ρ m p r m' q →
    ∀ (Q : Exit → Act → World → Prop), (∀ a' w', PcR c.ρ q → After c m w m' n r.env a a' w' → Q (exitOf r.x) a' w') → code.wp P Q a w

section ops
variable {P : Program} {ρ : Nat → Int} {n : Nat}

theorem iter0_gives {c : Cx} {m m' : Mem} {p q : Pc} {r : XE} {s : XO} (h : (iter0 r).gives c.ρ m p s m' q) : m' = m ∧ q = p ∧ s.env = r.env ∧ s.x = (match r.x with | .normal => none | x => some x) := by
  obtain ⟨x, env⟩ := r
  cases x
  · obtain ⟨rfl, rfl, rfl⟩ := M.gives_pure (show (M.pure (⟨none, env⟩ : XO)).gives c.ρ m p s m' q from h); exact ⟨rfl, rfl, rfl, rfl⟩
  · obtain ⟨rfl, rfl, rfl⟩ := M.gives_pure (show (M.pure (⟨some (.exit _), env⟩ : XO)).gives c.ρ m p s m' q from h); exact ⟨rfl, rfl, rfl, rfl⟩
  · obtain ⟨rfl, rfl, rfl⟩ := M.gives_pure (show (M.pure (⟨some .ret, env⟩ : XO)).gives c.ρ m p s m' q from h); exact ⟨rfl, rfl, rfl, rfl⟩
  · obtain ⟨rfl, rfl, rfl⟩ := M.gives_pure (show (M.pure (⟨some (.goto _), env⟩ : XO)).gives c.ρ m p s m' q from h); exact ⟨rfl, rfl, rfl, rfl⟩

/-- where a loop goes on -/
def goesTo (P : Program) (code : Code) (Q : Exit → Act → World → Prop) (x : Option X) (a : Act) (w : World) : Prop :=
  match x with
  | none => RoundWp P code Q a w
  | some x => Q (exitOf x) a w

theorem iter_ok {code : Code} {body : Env → M XE} (hb : CodeOK P ρ n code body) : ∀ (k : Nat) {c : Cx} {m m' : Mem} {w : World} {p q : Pc} {env : Env} {r : XO} {a : Act}, c.ρ = ρ → MemR c m w → PcR c.ρ p → EnvR c n env a → (iter body k env).gives c.ρ m p r m' q →
    ∀ (Q : Exit → Act → World → Prop), (∀ a' w', PcR c.ρ q → After c m w m' n r.env a a' w' → goesTo P code Q r.x a' w') → RoundWp P code Q a w
  | 0, c, m, m', w, p, q, env, r, a, hρ, hm, hp, he, h => by
    obtain ⟨r0, m1, p1, h1, h2⟩ := M.gives_bnd (show ((body env).bnd iter0).gives c.ρ m p r m' q from h)
    obtain ⟨rfl, rfl, h3, h4⟩ := iter0_gives h2
    intro Q hQ
    refine RoundWp.round (hb hρ hm hp he h1 _ fun a' w' hq hA => ?_)
    have hg := hQ a' w' hq (by rw [h3]; exact hA)
    obtain ⟨x, env'⟩ := r0
    rw [h4] at hg
    cases x <;> exact hg
  | k + 1, c, m, m', w, p, q, env, r, a, hρ, hm, hp, he, h => by
    obtain ⟨r0, m1, p1, h1, h2⟩ := M.gives_bnd (show ((iter body k env).bnd fun r => onXO r fun x e => (Option.rec (iter body k e) (fun _ => M.pure r) x : M XO)).gives c.ρ m p r m' q from h)
    intro Q hQ
    refine iter_ok hb k hρ hm hp he h1 Q fun a1 w1 hp1 hA => ?_
    obtain ⟨x, env1⟩ := r0
    cases x with
    | none =>
      obtain ⟨c1, s1, he1, hd⟩ := hA
      have hr := s1.le.ρ
      exact iter_ok hb k (hr.trans hρ) s1.rel (by rw [hr]; exact hp1) he1 (by rw [hr]; exact h2) Q fun a2 w2 hq hA2 => hQ a2 w2 (by rw [← hr]; exact hq) (hA2.trans s1 hd)
    | some x =>
      obtain ⟨rfl, rfl, rfl⟩ := M.gives_pure (show (M.pure (⟨some x, env1⟩ : XO)).gives c.ρ m1 p1 r m' q from h2)
      exact hQ a1 w1 hp1 hA

theorem condV_gives {c : Cx} {m : Mem} {p q : Pc} {v : V} {x : Value} {b : Bool} (hp : PcR c.ρ p) (hv : VR c v x) (h : (condV v).gives c.ρ m p b q) : PcR c.ρ q ∧ x = .bool b := by
  obtain ⟨e, rfl, h1⟩ := onBool_gives h
  obtain ⟨h2, h3⟩ := decR_gives hp h1
  rw [VR.bool] at hv
  exact ⟨h3, by rw [hv, h2]⟩

/-! ### labels -/

/-- in a scope, from some code of it on -/
def ScopeWp (P : Program) (body c : Code) (Q : Exit → Act → World → Prop) (a : Act) (w : World) : Prop :=
  ∀ (b : Frame) (k : List Item) (cs : List Frame), ∃ e a' w', Q e a' w' ∧ Arrives P (lone (b.at a (.code c :: .inScope body :: k)) cs w) b k cs e a' w'

/-- what a scope's code leads to -/
def scopeQ (P : Program) (body : Code) (Q : Exit → Act → World → Prop) : Exit → Act → World → Prop
  | .goto l, a, w => match findLabel body l with
    | some rest => ScopeWp P body rest Q a w
    | none => Q (.goto l) a w
  | e, a, w => Q e a w

theorem ScopeWp.of_wp {P : Program} {body c : Code} {Q : Exit → Act → World → Prop} {a : Act} {w : World} (h : c.wp P (scopeQ P body Q) a w) : ScopeWp P body c Q a w := by
  intro b k cs
  obtain ⟨e, a1, w1, hq, harr⟩ := h b (.inScope body :: k) cs
  cases e with
  | normal => exact ⟨.normal, a1, w1, hq, Steps.trans harr (.one step_inScope)⟩
  | exit id => exact ⟨.exit id, a1, w1, hq, fun k' hk => harr k' (by simp [exitTo, hk])⟩
  | goto l =>
    have hq : (match findLabel body l with | some rest => ScopeWp P body rest Q a1 w1 | none => Q (.goto l) a1 w1) := hq
    cases hf : findLabel body l with
    | some rest =>
      rw [hf] at hq
      obtain ⟨e2, a2, w2, hq2, harr2⟩ := hq b k cs
      exact ⟨e2, a2, w2, hq2, .of_steps (harr _ (by simp [gotoIn, hf])) harr2⟩
    | none =>
      rw [hf] at hq
      exact ⟨.goto l, a1, w1, hq, fun k' hk => harr k' (by simp [gotoIn, hf, hk])⟩
  | ret => exact ⟨.ret, a1, w1, hq, harr⟩
  | panic ch => exact ⟨.panic ch, a1, w1, hq, harr⟩
  | outgrown => exact ⟨.outgrown, a1, w1, hq, harr⟩

theorem ScopeWp.scope {P : Program} {body : Code} {Q : Exit → Act → World → Prop} {a : Act} {w : World} (h : ScopeWp P body body Q a w) : (Code.scope body).wp P Q a w := by
  intro b k cs
  obtain ⟨e, a', w', hq, harr⟩ := h b k cs
  exact ⟨e, a', w', hq, .of_steps (.one step_scope) harr⟩

/-- the runs from a code's labels on -/
def FrOK (P : Program) (ρ : Nat → Int) (n : Nat) (code : Code) (fr : Nat → Option (Env → M XE)) : Prop :=
  ∀ l, match fr l with
    | some f => ∃ rest, findLabel code l = some rest ∧ CodeOK P ρ n rest f
    | none => findLabel code l = none

theorem CodeOK.seq {x y : Code} {f g : Env → M XE} (hx : CodeOK P ρ n x f) (hy : CodeOK P ρ n y g) : CodeOK P ρ n (.seq x y) (seqRun f g) := by
  intro c m m' w p q env r a hρ hm hp he h Q hQ
  obtain ⟨r0, m1, p1, h1, h2⟩ := M.gives_bnd (show ((f env).bnd fun r => onXE r fun z e => (X.rec (g e) (fun _ => M.pure r) (M.pure r) (fun _ => M.pure r) z : M XE)).gives c.ρ m p r m' q from h)
  refine wp_seq (hx hρ hm hp he h1 _ fun a1 w1 hp1 hA => ?_)
  obtain ⟨z, env1⟩ := r0
  cases z with
  | normal =>
    obtain ⟨c1, s1, he1, hd⟩ := hA
    have hr := s1.le.ρ
    exact hy (hr.trans hρ) s1.rel (by rw [hr]; exact hp1) he1 (by rw [hr]; exact h2) Q fun a2 w2 hq hA2 => hQ a2 w2 (by rw [← hr]; exact hq) (hA2.trans s1 hd)
  | exit id =>
    obtain ⟨rfl, rfl, rfl⟩ := M.gives_pure (show (M.pure (⟨.exit id, env1⟩ : XE)).gives c.ρ m1 p1 r m' q from h2)
    exact hQ a1 w1 hp1 hA
  | ret =>
    obtain ⟨rfl, rfl, rfl⟩ := M.gives_pure (show (M.pure (⟨.ret, env1⟩ : XE)).gives c.ρ m1 p1 r m' q from h2)
    exact hQ a1 w1 hp1 hA
  | goto l =>
    obtain ⟨rfl, rfl, rfl⟩ := M.gives_pure (show (M.pure (⟨.goto l, env1⟩ : XE)).gives c.ρ m1 p1 r m' q from h2)
    exact hQ a1 w1 hp1 hA

theorem scopeX_ok {body : Code} {fr : Nat → Option (Env → M XE)} (hfr : FrOK P ρ n body fr) : ∀ (k : Nat) {c : Cx} {m m1 m' : Mem} {w w1 : World} {p1 q : Pc} {r0 r : XE} {a a1 : Act}, c.ρ = ρ → PcR c.ρ p1 → After c m w m1 n r0.env a a1 w1 → (scopeX fr k r0).gives c.ρ m1 p1 r m' q →
    ∀ (Q : Exit → Act → World → Prop), (∀ a' w', PcR c.ρ q → After c m w m' n r.env a a' w' → Q (exitOf r.x) a' w') → scopeQ P body Q (exitOf r0.x) a1 w1
  | 0, c, m, m1, m', w, w1, p1, q, r0, r, a, a1, hρ, hp1, hA, h, Q, hQ => (M.gives_fail (s := "jumps") h).elim
  | k + 1, c, m, m1, m', w, w1, p1, q, r0, r, a, a1, hρ, hp1, hA, h, Q, hQ => by
    obtain ⟨z, env1⟩ := r0
    have plain : (M.pure (⟨z, env1⟩ : XE)).gives c.ρ m1 p1 r m' q → Q (exitOf z) a1 w1 := fun h => by
      obtain ⟨rfl, rfl, rfl⟩ := M.gives_pure h
      exact hQ a1 w1 hp1 hA
    cases z with
    | normal => exact plain h
    | exit id => exact plain h
    | ret => exact plain h
    | goto l =>
      have h : (Option.rec (M.pure ⟨.goto l, env1⟩) (fun f => (f env1).bnd (scopeX fr k)) (fr l) : M XE).gives c.ρ m1 p1 r m' q := h
      have hf := hfr l
      show (match findLabel body l with | some rest => ScopeWp P body rest Q a1 w1 | none => Q (.goto l) a1 w1)
      cases he : fr l with
      | none =>
        rw [he] at h hf
        have hf : findLabel body l = none := hf
        rw [hf]
        exact plain h
      | some f =>
        rw [he] at h hf
        obtain ⟨rest, hl, hok⟩ := hf
        rw [hl]
        obtain ⟨r1, m2, p2, h1, h2⟩ := M.gives_bnd (show ((f env1).bnd (scopeX fr k)).gives c.ρ m1 p1 r m' q from h)
        obtain ⟨c1, s1, he1, hd⟩ := hA
        have hr := s1.le.ρ
        refine ScopeWp.of_wp (hok (hr.trans hρ) s1.rel (by rw [hr]; exact hp1) he1 (by rw [hr]; exact h1) _ fun a2 w2 hq hA2 => ?_)
        exact scopeX_ok hfr k hρ (by rw [← hr]; exact hq) (hA2.trans s1 hd) h2 Q hQ

theorem FrOK.none {code : Code} (h : ∀ l, findLabel code l = .none) : FrOK P ρ n code (fun _ => .none) := fun l => h l

theorem evC_ok (hM : P.follows .mixedOrders = true) {cf : FuncId → List V → M V} (hcf : CallsOK P ρ cf) (it : Nat) : ∀ (code : Code), codeRegs code = true → CodeOK P ρ n code (evC code P cf it n).run ∧ FrOK P ρ n code (evC code P cf it n).fr
  | .skip, _ => by
    refine ⟨?_, FrOK.none fun _ => rfl⟩
    intro c m m' w p q env r a hρ hm hp he h Q hQ
    obtain ⟨rfl, rfl, rfl⟩ := M.gives_pure (show (M.pure (⟨.normal, env⟩ : XE)).gives c.ρ m p r m' q from h)
    exact wp_skip (hQ a w hp ⟨c, Step.refl hm, he, rfl⟩)
  | .label k, _ => by
    refine ⟨?_, fun l => ?_⟩
    · intro c m m' w p q env r a hρ hm hp he h Q hQ
      obtain ⟨rfl, rfl, rfl⟩ := M.gives_pure (show (M.pure (⟨.normal, env⟩ : XE)).gives c.ρ m p r m' q from h)
      exact wp_label (hQ a w hp ⟨c, Step.refl hm, he, rfl⟩)
    · show match selB (Nat.beq k l) (some fun env => M.pure (⟨.normal, env⟩ : XE)) Option.none with | some f => _ | Option.none => _
      cases hb : Nat.beq k l with
      | true =>
        rw [beq_iff] at hb
        subst hb
        refine ⟨.skip, by simp [findLabel], ?_⟩
        intro c m m' w p q env r a hρ hm hp he h Q hQ
        obtain ⟨rfl, rfl, rfl⟩ := M.gives_pure (show (M.pure (⟨.normal, env⟩ : XE)).gives c.ρ m p r m' q from h)
        exact wp_skip (hQ a w hp ⟨c, Step.refl hm, he, rfl⟩)
      | false =>
        rw [beq_false] at hb
        show findLabel (.label k) l = Option.none
        simp [findLabel, hb]
  | .exit id, _ => by
    refine ⟨?_, FrOK.none fun _ => rfl⟩
    intro c m m' w p q env r a hρ hm hp he h Q hQ
    obtain ⟨rfl, rfl, rfl⟩ := M.gives_pure (show (M.pure (⟨.exit id, env⟩ : XE)).gives c.ρ m p r m' q from h)
    exact wp_exit (hQ a w hp ⟨c, Step.refl hm, he, rfl⟩)
  | .goto l, _ => by
    refine ⟨?_, FrOK.none fun _ => rfl⟩
    intro c m m' w p q env r a hρ hm hp he h Q hQ
    obtain ⟨rfl, rfl, rfl⟩ := M.gives_pure (show (M.pure (⟨.goto l, env⟩ : XE)).gives c.ρ m p r m' q from h)
    exact wp_goto (hQ a w hp ⟨c, Step.refl hm, he, rfl⟩)
  | .ret, _ => by
    refine ⟨?_, FrOK.none fun _ => rfl⟩
    intro c m m' w p q env r a hρ hm hp he h Q hQ
    obtain ⟨rfl, rfl, rfl⟩ := M.gives_pure (show (M.pure (⟨.ret, env⟩ : XE)).gives c.ρ m p r m' q from h)
    exact wp_ret (hQ a w hp ⟨c, Step.refl hm, he, rfl⟩)
  | .seq x y, hR => by
    obtain ⟨hR1, hR2⟩ := Bool.and_eq_true_iff.1 (show (codeRegs x && codeRegs y) = true from hR)
    obtain ⟨hx, fx⟩ := evC_ok hM hcf it x hR1
    obtain ⟨hy, fy⟩ := evC_ok hM hcf it y hR2
    refine ⟨hx.seq hy, fun l => ?_⟩
    have gx := fx l
    have gy := fy l
    show match (Option.rec ((evC y P cf it n).fr l) (fun f => some (seqRun f (evC y P cf it n).run)) ((evC x P cf it n).fr l) : Option (Env → M XE)) with | some f => _ | Option.none => _
    cases hf : (evC x P cf it n).fr l with
    | some f =>
      rw [hf] at gx
      obtain ⟨rest, h1, h2⟩ := gx
      exact ⟨.seq rest y, by simp [findLabel, h1], h2.seq hy⟩
    | none =>
      rw [hf] at gx
      have gx : findLabel x l = Option.none := gx
      show match (evC y P cf it n).fr l with | some f => _ | Option.none => _
      cases hg : (evC y P cf it n).fr l with
      | some f =>
        rw [hg] at gy
        obtain ⟨rest, h1, h2⟩ := gy
        exact ⟨rest, by simp [findLabel, gx, h1], h2⟩
      | none =>
        rw [hg] at gy
        have gy : findLabel y l = Option.none := gy
        show findLabel (.seq x y) l = Option.none
        simp [findLabel, gx, gy]
  | .cond k x y, hR => by
    obtain ⟨hR1, hR2⟩ := Bool.and_eq_true_iff.1 (show (codeRegs x && codeRegs y) = true from hR)
    have hx := (evC_ok hM hcf it x hR1).1
    have hy := (evC_ok hM hcf it y hR2).1
    refine ⟨?_, FrOK.none fun _ => rfl⟩
    intro c m m' w p q env r a hρ hm hp he h Q hQ
    obtain ⟨b, p1, h1, h2⟩ := R.gives_thn (show ((condV (opd k env)).thn fun b => (Bool.rec ((evC y P cf it n).run env) ((evC x P cf it n).run env) b : M XE)).gives c.ρ m p r m' q from h)
    obtain ⟨h3, h4⟩ := condV_gives hp (opd_ok he k) h1
    cases b with
    | false => exact wp_cond_false h4 (hy hρ hm h3 he h2 Q hQ)
    | true => exact wp_cond_true h4 (hx hρ hm h3 he h2 Q hQ)
  | .block id x, hR => by
    have hx := (evC_ok hM hcf it x hR).1
    refine ⟨?_, FrOK.none fun _ => rfl⟩
    intro c m m' w p q env r a hρ hm hp he h Q hQ
    obtain ⟨r0, m1, p1, h1, h2⟩ := M.gives_bnd (show (((evC x P cf it n).run env).bnd (blockX id)).gives c.ρ m p r m' q from h)
    refine wp_block (hx hρ hm hp he h1 _ fun a1 w1 hp1 hA => ?_)
    obtain ⟨z, env1⟩ := r0
    cases z with
    | normal =>
      obtain ⟨rfl, rfl, rfl⟩ := M.gives_pure (show (M.pure (⟨.normal, env1⟩ : XE)).gives c.ρ m1 p1 r m' q from h2)
      exact hQ a1 w1 hp1 hA
    | ret =>
      obtain ⟨rfl, rfl, rfl⟩ := M.gives_pure (show (M.pure (⟨.ret, env1⟩ : XE)).gives c.ρ m1 p1 r m' q from h2)
      exact hQ a1 w1 hp1 hA
    | goto l =>
      obtain ⟨rfl, rfl, rfl⟩ := M.gives_pure (show (M.pure (⟨.goto l, env1⟩ : XE)).gives c.ρ m1 p1 r m' q from h2)
      exact hQ a1 w1 hp1 hA
    | exit i =>
      obtain ⟨rfl, rfl, rfl⟩ := M.gives_pure (show (M.pure (⟨selB (Nat.beq i id) .normal (.exit i), env1⟩ : XE)).gives c.ρ m1 p1 r m' q from h2)
      have hq := hQ a1 w1 hp1 hA
      show Exit.inBlock id Q (.exit i) a1 w1
      cases hb : Nat.beq i id with
      | true =>
        rw [hb] at hq
        rw [beq_iff] at hb; subst hb
        simp only [Exit.inBlock, if_true]; exact hq
      | false =>
        rw [hb] at hq
        rw [beq_false] at hb
        simp only [Exit.inBlock, if_neg hb]; exact hq
  | .loop x, hR => by
    have hx := (evC_ok hM hcf it x hR).1
    refine ⟨?_, FrOK.none fun _ => rfl⟩
    intro c m m' w p q env r a hρ hm hp he h Q hQ
    obtain ⟨r0, m1, p1, h1, h2⟩ := M.gives_bnd (show ((iter (evC x P cf it n).run it env).bnd loopX).gives c.ρ m p r m' q from h)
    refine RoundWp.loop (iter_ok hx it hρ hm hp he h1 Q fun a1 w1 hp1 hA => ?_)
    obtain ⟨z, env1⟩ := r0
    cases z with
    | none => exact (M.gives_fail (s := "loop more rounds") h2).elim
    | some z =>
      obtain ⟨rfl, rfl, rfl⟩ := M.gives_pure (show (M.pure (⟨z, env1⟩ : XE)).gives c.ρ m1 p1 r m' q from h2)
      exact hQ a1 w1 hp1 hA
  | .scope x, hR => by
    obtain ⟨hx, fx⟩ := evC_ok hM hcf it x hR
    refine ⟨?_, FrOK.none fun _ => rfl⟩
    intro c m m' w p q env r a hρ hm hp he h Q hQ
    obtain ⟨r0, m1, p1, h1, h2⟩ := M.gives_bnd (show (((evC x P cf it n).run env).bnd (scopeX (evC x P cf it n).fr 6)).gives c.ρ m p r m' q from h)
    exact ScopeWp.scope (ScopeWp.of_wp (hx hρ hm hp he h1 _ fun a1 w1 hp1 hA => scopeX_ok fx 6 hρ hp1 hA h2 Q hQ))
  | .region id ops d, hR => by
    refine ⟨?_, FrOK.none fun _ => rfl⟩
    intro c m m' w p q env r a hρ hm hp he h Q hQ
    have h : (selB d (evDrawn ops P cf n env) (evReg ops P cf n env)).gives c.ρ m p r m' q := h
    cases d with
    | true =>
      obtain ⟨env1, m1, p1, h1, h2⟩ := M.gives_bnd (show ((evDr ops.toList ops P cf n 0 (fun _ => 0) env [] []).bnd fun env => M.pure (⟨.normal, env⟩ : XE)).gives c.ρ m p r m' q from h)
      obtain ⟨rfl, rfl, rfl⟩ := M.gives_pure h2
      have hR : regOK ops = true := by simpa [codeRegs] using hR
      refine drawn_ok (regF_of hR) hM hcf hρ hm (by rw [← hρ]; exact hp) he (by rw [← hρ]; exact h1) Q fun a' w' hq hA => hQ a' w' (by rw [hρ]; exact hq) hA
    | false =>
      obtain ⟨env1, m1, p1, h1, h2⟩ := M.gives_bnd (show ((evSeq ops.toList ops P cf n env).bnd fun env => M.pure (⟨.normal, env⟩ : XE)).gives c.ρ m p r m' q from h)
      obtain ⟨rfl, rfl, rfl⟩ := M.gives_pure h2
      exact wp_region_list (evSeq_ok hcf hρ hm hp he h1 Q hQ)
  | .rangeFunc _ _ _ _, _ => ⟨by intro c m m' w p q env r a hρ hm hp he h; exact (M.gives_fail (s := "code") h).elim, FrOK.none fun _ => rfl⟩
  | .refuse _, _ => ⟨by intro c m m' w p q env r a hρ hm hp he h; exact (M.gives_fail (s := "code") h).elim, FrOK.none fun _ => rfl⟩

theorem evCode_ok (hM : P.follows .mixedOrders = true) {cf : FuncId → List V → M V} (hcf : CallsOK P ρ cf) (it : Nat) (code : Code) (hR : codeRegs code = true) : CodeOK P ρ n code (evCode code P cf it n) := (evC_ok hM hcf it code hR).1
end ops

end Go.Sy
