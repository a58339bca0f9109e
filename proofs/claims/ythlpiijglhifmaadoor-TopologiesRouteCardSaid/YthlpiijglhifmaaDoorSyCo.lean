/-
  What is proved here: code whose ways are joined where they end alike: a slot that differs is not known any more.
  Conditions: none.
-/
import Derived.Test.YthlpiijglhifmaaDoorSyJoin
namespace Go.Sy

/-! ### memories that are one -/

noncomputable def eqOBx (a b : Option Blk) : Bool := (Option.rec (motive := fun _ => Bool) ((Option.rec (motive := fun _ => Bool) (true) (fun _ => false) (b))) (fun x => (Option.rec (motive := fun _ => Bool) (false) (fun y => eqBlk x y) (b))) (a))
noncomputable def eqON (a b : Option Nat) : Bool := (Option.rec (motive := fun _ => Bool) ((Option.rec (motive := fun _ => Bool) (true) (fun _ => false) (b))) (fun x => (Option.rec (motive := fun _ => Bool) (false) (fun y => Nat.beq x y) (b))) (a))

noncomputable def eqTr {α : Type} (f : Option α → Option α → Bool) (t : Tr α) : Tr α → Bool :=
  Tr.rec (motive := fun _ => Tr α → Bool) (fun u => Tr.rec (motive := fun _ => Bool) true (fun _ _ _ _ _ _ _ _ _ => false) u) (fun v _ _ _ _ i0 i1 i2 i3 u => Tr.rec (motive := fun _ => Bool) false (fun w u0 u1 u2 u3 _ _ _ _ => andB (f v w) (andB (andB (i0 u0) (i1 u1)) (andB (i2 u2) (i3 u3)))) u) t

noncomputable def eqMem (a b : Mem) : Bool := (Mem.rec (motive := fun _ => Bool) (fun t n k u => (Mem.rec (motive := fun _ => Bool) (fun t' n' k' u' => andB (andB (Nat.beq n n') (Nat.beq u u')) (andB (eqTr eqON k k') (eqTr eqOBx t t'))) (b))) (a))

theorem eqTr_ok {α : Type} {f : Option α → Option α → Bool} (hf : ∀ a b, f a b = true → a = b) : ∀ {t u : Tr α}, eqTr f t u = true → t = u
  | .nil, .nil, _ => rfl
  | .nil, .node .., h => (Bool.false_ne_true h).elim
  | .node .., .nil, h => (Bool.false_ne_true h).elim
  | .node v t0 t1 t2 t3, .node w u0 u1 u2 u3, h => by
    obtain ⟨h1, h2⟩ := andB_ok (show andB (f v w) (andB (andB (eqTr f t0 u0) (eqTr f t1 u1)) (andB (eqTr f t2 u2) (eqTr f t3 u3))) = true from h)
    obtain ⟨h3, h4⟩ := andB_ok h2
    obtain ⟨h5, h6⟩ := andB_ok h3
    obtain ⟨h7, h8⟩ := andB_ok h4
    rw [hf _ _ h1, eqTr_ok hf h5, eqTr_ok hf h6, eqTr_ok hf h7, eqTr_ok hf h8]

theorem eqOBx_ok (a b : Option Blk) (h : eqOBx a b = true) : a = b := by
  cases a <;> cases b <;> try exact (Bool.false_ne_true h).elim
  · rfl
  · exact congrArg some (eqBlk_ok h)

theorem eqON_ok (a b : Option Nat) (h : eqON a b = true) : a = b := by
  cases a <;> cases b <;> try exact (Bool.false_ne_true h).elim
  · rfl
  · exact congrArg some ((beq_iff _ _).1 h)

theorem eqMem_ok {a b : Mem} (h : eqMem a b = true) : a = b := by
  obtain ⟨t, n, k, u⟩ := a
  obtain ⟨t', n', k', u'⟩ := b
  obtain ⟨h1, h2⟩ := andB_ok (show andB (andB (Nat.beq n n') (Nat.beq u u')) (andB (eqTr eqON k k') (eqTr eqOBx t t')) = true from h)
  obtain ⟨h3, h4⟩ := andB_ok h1
  obtain ⟨h5, h6⟩ := andB_ok h2
  rw [(beq_iff _ _).1 h3, (beq_iff _ _).1 h4, eqTr_ok eqON_ok h5, eqTr_ok eqOBx_ok h6]

/-! ### ways that end alike -/

noncomputable def sameX (a b : X) : Bool := (X.rec (motive := fun _ => Bool) ((X.rec (motive := fun _ => Bool) (true) (fun _ => false) (false) (b))) (fun i => (X.rec (motive := fun _ => Bool) (false) (fun j => Nat.beq i j) (false) (b))) ((X.rec (motive := fun _ => Bool) (false) (fun _ => false) (true) (b))) (a))

noncomputable def mergeE (e f : Env) : Env := fun j => selB (eqVV (e j) (f j)) (e j) .bad

noncomputable def mergeR (ks : List Nat) (r s : Rs XE) (p : Pc) (d : T (Rs XE)) : T (Rs XE) :=
  onXE r.v fun x e => onXE s.v fun y f => selB (andB (sameX x y) (andB (allL (fun j => eqVV (e j) (f j)) ks) (eqMem r.m s.m))) (.ret ⟨⟨x, mergeE e f⟩, r.m, p⟩) d

noncomputable def onRet {α β : Type} (t : T α) (f : α → β) (d : β) : β := (T.rec (motive := fun _ => β) (fun r => f r) (fun _ _ _ _ _ => d) (fun _ => d) (t))

noncomputable def brJ (ks : List Nat) (c : B) (p : Pc) (x y : T (Rs XE)) : T (Rs XE) := onRet x (fun r => onRet y (fun s => mergeR ks r s p (.br c x y)) (.br c x y)) (.br c x y)

noncomputable def joinX (ks : List Nat) (t : T (Rs XE)) : Pc → T (Rs XE) := (T.rec (motive := fun _ => Pc → T (Rs XE)) (fun r => fun _ => .ret r) (fun c _ _ ix iy => fun p => brJ ks c p (ix (p.add c true)) (iy (p.add c false))) (fun s => fun _ => .fail s) (t))

noncomputable def joinXM (ks : List Nat) (x : M XE) : M XE := fun m p => joinX ks (x m p) p

/-- e but for what is not known any more -/
def Less (e' e : Env) : Prop := ∀ j, e' j = e j ∨ e' j = .bad

theorem Less.trans {a b c : Env} (h : Less a b) (g : Less b c) : Less a c := fun j => by
  rcases h j with h | h
  · rcases g j with g | g
    · exact .inl (h.trans g)
    · exact .inr (h.trans g)
  · exact .inr h

theorem mergeE_left (e f : Env) : Less (mergeE e f) e := fun j => by
  show selB (eqVV (e j) (f j)) (e j) .bad = e j ∨ _
  cases h : eqVV (e j) (f j) with
  | true => exact .inl rfl
  | false => exact .inr (by show selB (eqVV (e j) (f j)) (e j) .bad = .bad; rw [h]; rfl)

theorem mergeE_right (e f : Env) : Less (mergeE e f) f := fun j => by
  show selB (eqVV (e j) (f j)) (e j) .bad = f j ∨ _
  cases h : eqVV (e j) (f j) with
  | true => exact .inl (eqVV_ok _ _ h)
  | false => exact .inr (by show selB (eqVV (e j) (f j)) (e j) .bad = .bad; rw [h]; rfl)

theorem sameX_ok {a b : X} (h : sameX a b = true) : a = b := by
  cases a <;> cases b <;> first
    | rfl
    | exact (Bool.false_ne_true h).elim
    | exact congrArg X.exit ((beq_iff _ _).1 h)

theorem onRet_cases {α β : Type} (t : T α) (f : α → β) (d : β) : (∃ r, t = .ret r ∧ onRet t f d = f r) ∨ onRet t f d = d := by
  cases t with
  | ret r => exact .inl ⟨r, rfl, rfl⟩
  | br c x y => exact .inr rfl
  | fail s => exact .inr rfl

theorem joinX_out {ρ : Nat → Int} {ks : List Nat} : ∀ {t : T (Rs XE)} {p : Pc} {r : Rs XE}, PcR ρ p → (joinX ks t p).out ρ = some r →
    ∃ e q, t.out ρ = some ⟨⟨r.v.x, e⟩, r.m, q⟩ ∧ Less r.v.env e ∧ (PcR ρ q → PcR ρ r.p)
  | .ret s, p, r, _, h => by
    have h := Option.some.inj (show some s = some r from h)
    subst h
    exact ⟨s.v.env, s.p, rfl, fun j => .inl rfl, id⟩
  | .fail s, p, r, _, h => nomatch h
  | .br c x y, p, r, hp, h => by
    have hx := fun {r : Rs XE} => joinX_out (ρ := ρ) (ks := ks) (t := x) (p := p.add c true) (r := r)
    have hy := fun {r : Rs XE} => joinX_out (ρ := ρ) (ks := ks) (t := y) (p := p.add c false) (r := r)
    have plain : (T.br c (joinX ks x (p.add c true)) (joinX ks y (p.add c false))).out ρ = some r → ∃ e q, (T.br c x y).out ρ = some ⟨⟨r.v.x, e⟩, r.m, q⟩ ∧ Less r.v.env e ∧ (PcR ρ q → PcR ρ r.p) := fun h => by
      simp only [T.out] at h ⊢
      cases hc : c.den ρ with
      | true =>
        rw [hc] at h
        obtain ⟨e, q, h1, h2⟩ := hx (Pc.add_ok hp hc) (by simpa using h)
        exact ⟨e, q, by simpa using h1, h2⟩
      | false =>
        rw [hc] at h
        obtain ⟨e, q, h1, h2⟩ := hy (Pc.add_ok hp hc) (by simpa using h)
        exact ⟨e, q, by simpa using h1, h2⟩
    have h : (brJ ks c p (joinX ks x (p.add c true)) (joinX ks y (p.add c false))).out ρ = some r := h
    unfold brJ at h
    rcases onRet_cases (joinX ks x (p.add c true)) (fun r => onRet (joinX ks y (p.add c false)) (fun s => mergeR ks r s p (.br c (joinX ks x (p.add c true)) (joinX ks y (p.add c false)))) (.br c (joinX ks x (p.add c true)) (joinX ks y (p.add c false)))) (.br c (joinX ks x (p.add c true)) (joinX ks y (p.add c false))) with ⟨r1, e1, h1⟩ | h1
    · rw [h1] at h
      rcases onRet_cases (joinX ks y (p.add c false)) (fun s => mergeR ks r1 s p (.br c (joinX ks x (p.add c true)) (joinX ks y (p.add c false)))) (.br c (joinX ks x (p.add c true)) (joinX ks y (p.add c false))) with ⟨r2, e2, h2⟩ | h2
      · rw [h2] at h
        obtain ⟨⟨x1, f1⟩, m1, q1⟩ := r1
        obtain ⟨⟨x2, f2⟩, m2, q2⟩ := r2
        have h : (selB (andB (sameX x1 x2) (andB (allL (fun j => eqVV (f1 j) (f2 j)) ks) (eqMem m1 m2))) (.ret ⟨⟨x1, mergeE f1 f2⟩, m1, p⟩) (.br c (joinX ks x (p.add c true)) (joinX ks y (p.add c false))) : T (Rs XE)).out ρ = some r := h
        cases hb : andB (sameX x1 x2) (andB (allL (fun j => eqVV (f1 j) (f2 j)) ks) (eqMem m1 m2)) with
        | false => rw [hb] at h; exact plain h
        | true =>
          rw [hb] at h
          have h := Option.some.inj (show some (⟨⟨x1, mergeE f1 f2⟩, m1, p⟩ : Rs XE) = some r from h)
          subst h
          obtain ⟨g1, g2⟩ := andB_ok hb
          obtain ⟨_, g4⟩ := andB_ok g2
          have gx := sameX_ok g1
          have gm := eqMem_ok g4
          subst gx gm
          simp only [T.out]
          cases hc : c.den ρ with
          | true =>
            obtain ⟨e, q, k1, k2, _⟩ := hx (Pc.add_ok hp hc) (show (joinX ks x (p.add c true)).out ρ = some ⟨⟨x1, f1⟩, m1, q1⟩ by rw [e1]; rfl)
            exact ⟨e, q, by simpa using k1, (mergeE_left f1 f2).trans k2, fun _ => hp⟩
          | false =>
            obtain ⟨e, q, k1, k2, _⟩ := hy (Pc.add_ok hp hc) (show (joinX ks y (p.add c false)).out ρ = some ⟨⟨x1, f2⟩, m1, q2⟩ by rw [e2]; rfl)
            exact ⟨e, q, by simpa using k1, (mergeE_right f1 f2).trans k2, fun _ => hp⟩
      · rw [h2] at h; exact plain h
    · rw [h1] at h; exact plain h

/-! ### code -/

noncomputable def evCo (ks : List Nat) (c : Code) : Program → (FuncId → List V → M V) → Nat → Nat → Env → M XE := (Code.rec (motive := fun _ => Program → (FuncId → List V → M V) → Nat → Nat → Env → M XE) (fun _ _ _ _ env => M.pure ⟨.normal, env⟩) (fun _ ops d => fun P cf _ n env => selB d (evDrawn ops P cf n env) (evReg ops P cf n env)) (fun _ _ ia ib => fun P cf it n env => (ia P cf it n env).bnd fun r => onXE r fun x env => (X.rec (motive := fun _ => M XE) (ib P cf it n env) (fun _ => M.pure r) (M.pure r) (x))) (fun c _ _ ix iy => fun P cf it n env => joinXM ks ((condV (opd c env)).thn fun b => (Bool.rec (motive := fun _ => M XE) (iy P cf it n env) (ix P cf it n env) (b)))) (fun id _ ih => fun P cf it n env => joinXM ks ((ih P cf it n env).bnd (blockX id))) (fun _ ih => fun P cf it n env => (iter (fun env => joinXM ks (ih P cf it n env)) it env).bnd loopX) (fun _ _ _ _ _ _ => fun _ _ _ _ _ => M.fail "code") (fun id => fun _ _ _ _ env => M.pure ⟨.exit id, env⟩) (fun _ _ => fun _ _ _ _ _ => M.fail "code") (fun _ => fun _ _ _ _ env => M.pure ⟨.normal, env⟩) (fun _ => fun _ _ _ _ _ => M.fail "code") (fun _ _ _ _ env => M.pure ⟨.ret, env⟩) (fun _ => fun _ _ _ _ _ => M.fail "code") (c))

noncomputable def evOneC (ks : List Nat) (P : Program) (cf : FuncId → List V → M V) (it : Nat) (f : FuncId) (args : List V) : M V := (Option.rec (motive := fun _ => M V) (M.fail "no such function") (fun fn => (Option.rec (motive := fun _ => M V) (M.fail fn.name) (fun c => (evCo ks c P cf it (slots fn.ntmps args) (setArgs args 0 env0)).bnd (endX P fn)) (fn.body))) (P.funcs[f]?))

/-- function f is run with joined ways: those that are alike in the slots ks -/
noncomputable def kwCo (P : Program) (cf : FuncId → List V → M V) (it : Nat) (f : FuncId) (ks : List Nat) (r : Kw) : Kw := fun i => selB (Nat.beq i f) (some fun _ => evOneC ks P cf it f) (r i)

section ops
variable {P : Program} {ρ : Nat → Int} {n : Nat}

theorem CodeOK.join {code : Code} {ev : Env → M XE} (h : CodeOK P ρ n code ev) (ks : List Nat) : CodeOK P ρ n code fun env => joinXM ks (ev env) := by
  intro c m m' w p q env r a hρ hm hp he hg Q hQ
  obtain ⟨e, q0, h1, h2, h3⟩ := joinX_out hp (show (joinX ks (ev env m p) p).out c.ρ = some ⟨r, m', q⟩ from hg)
  refine h hρ hm hp he (show (ev env m p).out c.ρ = some ⟨⟨r.x, e⟩, m', q0⟩ from h1) Q fun a' w' hq hA => hQ a' w' (h3 hq) ?_
  obtain ⟨c', s, he', hd⟩ := hA
  refine ⟨c', s, ⟨he'.size, fun j => ?_, he'.glob⟩, hd⟩
  rcases h2 j with h4 | h4
  · rw [show r.env j = e j from h4]; exact he'.slot j
  · rw [show r.env j = .bad from h4]; exact VR.bad

theorem evCo_ok (hM : P.follows .mixedOrders = true) {cf : FuncId → List V → M V} (hcf : CallsOK P ρ cf) (ks : List Nat) (it : Nat) : ∀ (code : Code), codeRegs code = true → CodeOK P ρ n code (evCo ks code P cf it n)
  | .skip => by
    intro hR c m m' w p q env r a hρ hm hp he h Q hQ
    obtain ⟨rfl, rfl, rfl⟩ := M.gives_pure (show (M.pure (⟨.normal, env⟩ : XE)).gives c.ρ m p r m' q from h)
    exact wp_skip (hQ a w hp ⟨c, Step.refl hm, he, rfl⟩)
  | .label l => by
    intro hR c m m' w p q env r a hρ hm hp he h Q hQ
    obtain ⟨rfl, rfl, rfl⟩ := M.gives_pure (show (M.pure (⟨.normal, env⟩ : XE)).gives c.ρ m p r m' q from h)
    exact wp_label (hQ a w hp ⟨c, Step.refl hm, he, rfl⟩)
  | .exit id => by
    intro hR c m m' w p q env r a hρ hm hp he h Q hQ
    obtain ⟨rfl, rfl, rfl⟩ := M.gives_pure (show (M.pure (⟨.exit id, env⟩ : XE)).gives c.ρ m p r m' q from h)
    exact wp_exit (hQ a w hp ⟨c, Step.refl hm, he, rfl⟩)
  | .ret => by
    intro hR c m m' w p q env r a hρ hm hp he h Q hQ
    obtain ⟨rfl, rfl, rfl⟩ := M.gives_pure (show (M.pure (⟨.ret, env⟩ : XE)).gives c.ρ m p r m' q from h)
    exact wp_ret (hQ a w hp ⟨c, Step.refl hm, he, rfl⟩)
  | .seq x y => by
    intro hR c m m' w p q env r a hρ hm hp he h Q hQ
    obtain ⟨r0, m1, p1, h1, h2⟩ := M.gives_bnd (show ((evCo ks x P cf it n env).bnd fun r => onXE r fun z e => (X.rec (evCo ks y P cf it n e) (fun _ => M.pure r) (M.pure r) z : M XE)).gives c.ρ m p r m' q from h)
    obtain ⟨hR1, hR2⟩ := Bool.and_eq_true_iff.1 (show (codeRegs x && codeRegs y) = true from hR)
    refine wp_seq (evCo_ok hM hcf ks it x hR1 hρ hm hp he h1 _ fun a1 w1 hp1 hA => ?_)
    obtain ⟨z, env1⟩ := r0
    cases z with
    | normal =>
      obtain ⟨c1, s1, he1, hd⟩ := hA
      have hr := s1.le.ρ
      exact evCo_ok hM hcf ks it y hR2 (hr.trans hρ) s1.rel (by rw [hr]; exact hp1) he1 (by rw [hr]; exact h2) Q fun a2 w2 hq hA2 => hQ a2 w2 (by rw [← hr]; exact hq) (hA2.trans s1 hd)
    | exit id =>
      obtain ⟨rfl, rfl, rfl⟩ := M.gives_pure (show (M.pure (⟨.exit id, env1⟩ : XE)).gives c.ρ m1 p1 r m' q from h2)
      exact hQ a1 w1 hp1 hA
    | ret =>
      obtain ⟨rfl, rfl, rfl⟩ := M.gives_pure (show (M.pure (⟨.ret, env1⟩ : XE)).gives c.ρ m1 p1 r m' q from h2)
      exact hQ a1 w1 hp1 hA
  | .cond k x y => by
    intro hR
    have hx := evCo_ok hM hcf ks it x (Bool.and_eq_true_iff.1 (show (codeRegs x && codeRegs y) = true from hR)).1
    have hy := evCo_ok hM hcf ks it y (Bool.and_eq_true_iff.1 (show (codeRegs x && codeRegs y) = true from hR)).2
    refine CodeOK.join (ev := fun env => (condV (opd k env)).thn fun b => (Bool.rec (evCo ks y P cf it n env) (evCo ks x P cf it n env) b : M XE)) ?_ ks
    intro c m m' w p q env r a hρ hm hp he h Q hQ
    obtain ⟨b, p1, h1, h2⟩ := R.gives_thn h
    obtain ⟨h3, h4⟩ := condV_gives hp (opd_ok he k) h1
    cases b with
    | false => exact wp_cond_false h4 (hy hρ hm h3 he h2 Q hQ)
    | true => exact wp_cond_true h4 (hx hρ hm h3 he h2 Q hQ)
  | .block id x => by
    intro hR
    have hx := evCo_ok hM hcf ks it x hR
    refine CodeOK.join (ev := fun env => (evCo ks x P cf it n env).bnd (blockX id)) ?_ ks
    intro c m m' w p q env r a hρ hm hp he h Q hQ
    obtain ⟨r0, m1, p1, h1, h2⟩ := M.gives_bnd h
    refine wp_block (hx hρ hm hp he h1 _ fun a1 w1 hp1 hA => ?_)
    obtain ⟨z, env1⟩ := r0
    cases z with
    | normal =>
      obtain ⟨rfl, rfl, rfl⟩ := M.gives_pure (show (M.pure (⟨.normal, env1⟩ : XE)).gives c.ρ m1 p1 r m' q from h2)
      exact hQ a1 w1 hp1 hA
    | ret =>
      obtain ⟨rfl, rfl, rfl⟩ := M.gives_pure (show (M.pure (⟨.ret, env1⟩ : XE)).gives c.ρ m1 p1 r m' q from h2)
      exact hQ a1 w1 hp1 hA
    | exit i =>
      obtain ⟨rfl, rfl, rfl⟩ := M.gives_pure (show (M.pure (⟨selB (Nat.beq i id) .normal (.exit i), env1⟩ : XE)).gives c.ρ m1 p1 r m' q from h2)
      have hq := hQ a1 w1 hp1 hA
      show Exit.inBlock id Q (.exit i) a1 w1
      cases hb : Nat.beq i id with
      | true =>
        rw [hb] at hq
        rw [beq_iff] at hb; subst hb
        simp only [Exit.inBlock, if_true]; exact hq
      | false =>
        rw [hb] at hq
        rw [beq_false] at hb
        simp only [Exit.inBlock, if_neg hb]; exact hq
  | .loop x => by
    intro hR c m m' w p q env r a hρ hm hp he h Q hQ
    obtain ⟨r0, m1, p1, h1, h2⟩ := M.gives_bnd (show ((iter (fun env => joinXM ks (evCo ks x P cf it n env)) it env).bnd loopX).gives c.ρ m p r m' q from h)
    refine RoundWp.loop (iter_ok (CodeOK.join (evCo_ok hM hcf ks it x hR) ks) it hρ hm hp he h1 Q fun a1 w1 hp1 hA => ?_)
    obtain ⟨z, env1⟩ := r0
    cases z with
    | none => exact (M.gives_fail (s := "loop more rounds") h2).elim
    | some z =>
      obtain ⟨rfl, rfl, rfl⟩ := M.gives_pure (show (M.pure (⟨z, env1⟩ : XE)).gives c.ρ m1 p1 r m' q from h2)
      exact hQ a1 w1 hp1 hA
  | .region id ops d => fun hR => evCode_ok hM hcf it (.region id ops d) hR
  | .rangeFunc _ _ _ _ => by intro hR c m m' w p q env r a hρ hm hp he h; exact (M.gives_fail (s := "code") h).elim
  | .scope _ => by intro hR c m m' w p q env r a hρ hm hp he h; exact (M.gives_fail (s := "code") h).elim
  | .refuse _ => by intro hR c m m' w p q env r a hρ hm hp he h; exact (M.gives_fail (s := "code") h).elim
  | .goto _ => by intro hR c m m' w p q env r a hρ hm hp he h; exact (M.gives_fail (s := "code") h).elim

theorem evOneC_ok (hP : Plain P) (ks : List Nat) (it : Nat) {cf : FuncId → List V → M V} (hcf : CallsOK P ρ cf) (f : FuncId) : FnOK P ρ f (evOneC ks P cf it f) := by
    intro l c m m' w p q v args hρ hm hp hg hl h
    have h : (Option.rec (M.fail "no such function") (fun fn => (Option.rec (M.fail fn.name) (fun co => (evCo ks co P cf it (slots fn.ntmps l) (setArgs l 0 env0)).bnd (endX P fn)) fn.body : M V)) P.funcs[f]? : M V).gives c.ρ m p v m' q := h
    cases hf : P.funcs[f]? with
    | none => rw [hf] at h; exact (M.gives_fail (s := "no such function") h).elim
    | some fn =>
      rw [hf] at h
      have h : (Option.rec (M.fail fn.name) (fun co => (evCo ks co P cf it (slots fn.ntmps l) (setArgs l 0 env0)).bnd (endX P fn)) fn.body : M V).gives c.ρ m p v m' q := h
      cases hb : fn.body with
      | none => rw [hb] at h; exact (M.gives_fail (s := fn.name) h).elim
      | some co =>
        rw [hb] at h
        obtain ⟨r, m1, p1, h1, h2⟩ := M.gives_bnd (show ((evCo ks co P cf it (slots fn.ntmps l) (setArgs l 0 env0)).bnd (endX P fn)).gives c.ρ m p v m' q from h)
        refine ⟨⟨fn, hf, by rw [hb]; rfl, by have := hP.fns f fn hf; simp [goodFn] at this; simpa using this.1⟩, calls_of_wp hf hb ?_⟩
        have hR : codeRegs co = true := by have := hP.fns f fn hf; simp [goodFn, hb] at this; exact this.2
        refine evCo_ok hP.mixed hcf ks it co hR hρ hm hp (env_ok hg fn.ntmps hl) h1 _ fun a w' hq hA => ?_
        obtain ⟨c1, s1, he1, hd⟩ := hA
        obtain ⟨x, env1⟩ := r
        have hr := s1.le.ρ
        have key : (∀ id, x ≠ .exit id) → ((resV fn.results.toList P env1).thn fun l => M.pure (oneV l)).gives c.ρ m1 p1 v m' q →
            a.defers = [] ∧ ∃ y, (results fn a.tmps).run P w' = .ok y w' ∧ ∃ c' z, Ending.returned y = .returned z ∧ Step c m w c' m' w' ∧ VR c' v z ∧ PcR c.ρ q := by
          intro _ h3
          obtain ⟨rs, p2, h4, h5⟩ := R.gives_thn h3
          rw [← hr] at h4
          obtain ⟨rfl, z, h6, h7⟩ := results_ok s1.rel he1 (by rw [hr]; exact hq) h4
          obtain ⟨rfl, rfl, rfl⟩ := M.gives_pure h5
          exact ⟨hd, z, h6, c1, z, rfl, s1, h7, hq⟩
        cases x with
        | exit id => exact (M.gives_fail (s := "an exit") h2).elim
        | normal => exact key (fun _ e => by cases e) h2
        | ret => exact key (fun _ e => by cases e) h2

theorem kwCo_ok (hP : Plain P) {cf : FuncId → List V → M V} (hcf : CallsOK P ρ cf) {it : Nat} {f : FuncId} {ks : List Nat} {r : Kw} (hr : KwOK P ρ r) : KwOK P ρ (kwCo P cf it f ks r) := by
  intro g tr h ev hev
  have h : selB (Nat.beq g f) (some fun _ => evOneC ks P cf it f) (r g) = some tr := h
  cases hb : Nat.beq g f with
  | true =>
    rw [hb] at h
    have h := Option.some.inj (show (some fun _ => evOneC ks P cf it f) = some tr from h)
    subst h
    rw [beq_iff] at hb
    subst hb
    exact evOneC_ok hP ks it hcf g
  | false => rw [hb] at h; exact hr g tr h ev hev
end ops

end Go.Sy
