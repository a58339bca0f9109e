/-
  What is proved here: a code up to a place inside it, with joined ways in some of its statements.
  Conditions: none.
-/
import Derived.Test.YtafkokkcnnfnlaaGreatDoorSyM5
namespace Go.Sy
open Go.RowKit (Below)

/-- a statement: one that begins with a region of 'hs' with joined ways -/
noncomputable def stepC (hs : List (Nat × List Nat)) (c : Code) (P : Program) (cf : FuncId → List V → M V) (it n : Nat) : Env → M XE := (Option.rec (motive := fun _ => Env → M XE) (evCode c P cf it n) (fun ks => evCo [] ks c P cf it n) (joinOf hs c))

theorem stepC_ok {P : Program} {ρ : Nat → Int} {n : Nat} {hs : List (Nat × List Nat)} (hM : P.follows .mixedOrders = true) {cf : FuncId → List V → M V} (hcf : CallsOK P ρ cf) (it : Nat) (code : Code) (hR : codeFlat code = true) ⦃c : Cx⦄ ⦃m m' : Mem⦄ ⦃w : World⦄ ⦃p q : Pc⦄ ⦃env : Env⦄ ⦃r : XE⦄ ⦃a : Act⦄ (hρ : c.ρ = ρ) (hm : MemR c m w) (hp : PcR c.ρ p) (he : EnvR c n env a)
    (h : (stepC hs code P cf it n env).gives c.ρ m p r m' q) (Q : Exit → Act → World → Prop) (hQ : ∀ a' w', PcR c.ρ q → After c m w m' n r.env a a' w' → Q (exitOf r.x) a' w') : code.wp P Q a w := by
  unfold stepC at h
  cases hj : joinOf hs code with
  | none => rw [hj] at h; exact evCode_ok hM hcf it code hR hρ hm hp he h Q hQ
  | some ks =>
    rw [hj] at h
    obtain ⟨h1, _⟩ := Bool.and_eq_true_iff.1 hR
    exact wpIn_wide.1 (evCo_ok hM hcf [] ks it code h1 hρ hm hp he h none (fun _ => rfl) Q fun a' w' hq hA => hQ a' w' hq hA.plain)

/-- up to the place: 'none': there -/
noncomputable def evPathC (hs : List (Nat × List Nat)) (P : Program) (cf : FuncId → List V → M V) (it n : Nat) : List Dir → Code → Env → M XO
  | [], _, env => M.pure ⟨none, env⟩
  | .l :: d, c, env => selB (isSeq c) ((evPathC hs P cf it n d (cL c) env).bnd fun r => onXO r fun x _ => (Option.rec (motive := fun _ => M XO) (M.pure r) (fun x => (X.rec (motive := fun _ => M XO) (M.fail "past the place") (fun _ => M.pure r) (M.pure r) (fun _ => M.pure r) (x))) (x))) (M.fail "no such place")
  | .r :: d, c, env => selB (isSeq c) ((stepC hs (cL c) P cf it n env).bnd fun r => onXE r fun x e => (X.rec (motive := fun _ => M XO) (evPathC hs P cf it n d (cR c) e) (fun _ => M.pure ⟨some x, e⟩) (M.pure ⟨some x, e⟩) (fun _ => M.pure ⟨some x, e⟩) (x))) (M.fail "no such place")
  | .b :: d, c, env => selB (isBlock c) ((evPathC hs P cf it n d (cB c) env).bnd fun r => onXO r fun x _ => (Option.rec (motive := fun _ => M XO) (M.pure r) (fun x => (X.rec (motive := fun _ => M XO) (M.fail "past the place") (fun i => selB (Nat.beq i (cId c)) (M.fail "past the place") (M.pure r)) (M.pure r) (fun _ => M.pure r) (x))) (x))) (M.fail "no such place")

theorem pathC_ok {hs : List (Nat × List Nat)} {P : Program} {ρ : Nat → Int} (hM : P.follows .mixedOrders = true) {cf : FuncId → List V → M V} (hcf : CallsOK P ρ cf) (it n : Nat) : ∀ (d : List Dir) (co : Code), codeFlat co = true →
    ∀ {c : Cx} {m m' : Mem} {w : World} {p q : Pc} {env : Env} {r : XO} {a : Act}, c.ρ = ρ → MemR c m w → PcR c.ρ p → EnvR c n env a → (evPathC hs P cf it n d co env).gives c.ρ m p r m' q →
    ∀ (Q : Exit → Act → World → Prop), (∀ a' w', PcR c.ρ q → After c m w m' n r.env a a' w' → match r.x with | none => placeWp P d co Q a' w' | some x => Q (exitOf x) a' w') → co.wp P Q a w
  | [], co, _, c, m, m', w, p, q, env, r, a, hρ, hm, hp, he, h, Q, hQ => by
    obtain ⟨rfl, rfl, rfl⟩ := M.gives_pure (show (M.pure (⟨none, env⟩ : XO)).gives c.ρ m p r m' q from h)
    exact hQ a w hp ⟨c, Step.refl hm, he, rfl⟩
  | .l :: d, co, hR, c, m, m', w, p, q, env, r, a, hρ, hm, hp, he, h, Q, hQ => by
    obtain ⟨h1, h2⟩ := M.gives_if (show (selB (isSeq co) ((evPathC hs P cf it n d (cL co) env).bnd fun r => onXO r fun x _ => (Option.rec (M.pure r) (fun x => X.rec (M.fail "past the place") (fun _ => M.pure r) (M.pure r) (fun _ => M.pure r) x) x : M XO)) (M.fail "no such place")).gives c.ρ m p r m' q from h)
    cases co <;> try exact (Bool.false_ne_true h1).elim
    rename_i x y
    obtain ⟨hR1, _⟩ := codeFlat_seq hR
    obtain ⟨r0, m1, p1, h3, h4⟩ := M.gives_bnd h2
    refine wp_seq (pathC_ok hM hcf it n d x hR1 hρ hm hp he h3 _ fun a1 w1 hp1 hA => ?_)
    obtain ⟨z, env1⟩ := r0
    cases z with
    | none =>
      obtain ⟨rfl, rfl, rfl⟩ := M.gives_pure (show (M.pure (⟨none, env1⟩ : XO)).gives c.ρ m1 p1 r m' q from h4)
      exact hQ a1 w1 hp1 hA
    | some z =>
      cases z with
      | normal => exact (M.gives_fail (s := "past the place") h4).elim
      | exit i =>
        obtain ⟨rfl, rfl, rfl⟩ := M.gives_pure (show (M.pure (⟨some (.exit i), env1⟩ : XO)).gives c.ρ m1 p1 r m' q from h4)
        exact hQ a1 w1 hp1 hA
      | ret =>
        obtain ⟨rfl, rfl, rfl⟩ := M.gives_pure (show (M.pure (⟨some .ret, env1⟩ : XO)).gives c.ρ m1 p1 r m' q from h4)
        exact hQ a1 w1 hp1 hA
      | goto l =>
        obtain ⟨rfl, rfl, rfl⟩ := M.gives_pure (show (M.pure (⟨some (.goto l), env1⟩ : XO)).gives c.ρ m1 p1 r m' q from h4)
        exact hQ a1 w1 hp1 hA
  | .r :: d, co, hR, c, m, m', w, p, q, env, r, a, hρ, hm, hp, he, h, Q, hQ => by
    obtain ⟨h1, h2⟩ := M.gives_if (show (selB (isSeq co) ((stepC hs (cL co) P cf it n env).bnd fun r => onXE r fun x e => (X.rec (evPathC hs P cf it n d (cR co) e) (fun _ => M.pure ⟨some x, e⟩) (M.pure ⟨some x, e⟩) (fun _ => M.pure ⟨some x, e⟩) x : M XO)) (M.fail "no such place")).gives c.ρ m p r m' q from h)
    cases co <;> try exact (Bool.false_ne_true h1).elim
    rename_i x y
    obtain ⟨hR1, hR2⟩ := codeFlat_seq hR
    obtain ⟨r0, m1, p1, h3, h4⟩ := M.gives_bnd h2
    refine wp_seq (stepC_ok hM hcf it x hR1 hρ hm hp he h3 _ fun a1 w1 hp1 hA => ?_)
    obtain ⟨z, env1⟩ := r0
    cases z with
    | normal =>
      obtain ⟨c1, s1, he1, hd⟩ := hA
      have hr := s1.le.ρ
      exact pathC_ok hM hcf it n d y hR2 (hr.trans hρ) s1.rel (by rw [hr]; exact hp1) he1 (by rw [hr]; exact h4) Q fun a2 w2 hq hA2 => hQ a2 w2 (by rw [← hr]; exact hq) (hA2.trans s1 hd)
    | exit i =>
      obtain ⟨rfl, rfl, rfl⟩ := M.gives_pure (show (M.pure (⟨some (.exit i), env1⟩ : XO)).gives c.ρ m1 p1 r m' q from h4)
      exact hQ a1 w1 hp1 hA
    | ret =>
      obtain ⟨rfl, rfl, rfl⟩ := M.gives_pure (show (M.pure (⟨some .ret, env1⟩ : XO)).gives c.ρ m1 p1 r m' q from h4)
      exact hQ a1 w1 hp1 hA
    | goto l =>
      obtain ⟨rfl, rfl, rfl⟩ := M.gives_pure (show (M.pure (⟨some (.goto l), env1⟩ : XO)).gives c.ρ m1 p1 r m' q from h4)
      exact hQ a1 w1 hp1 hA
  | .b :: d, co, hR, c, m, m', w, p, q, env, r, a, hρ, hm, hp, he, h, Q, hQ => by
    obtain ⟨h1, h2⟩ := M.gives_if (show (selB (isBlock co) ((evPathC hs P cf it n d (cB co) env).bnd fun r => onXO r fun x _ => (Option.rec (M.pure r) (fun x => X.rec (M.fail "past the place") (fun i => selB (Nat.beq i (cId co)) (M.fail "past the place") (M.pure r)) (M.pure r) (fun _ => M.pure r) x) x : M XO)) (M.fail "no such place")).gives c.ρ m p r m' q from h)
    cases co <;> try exact (Bool.false_ne_true h1).elim
    rename_i id x
    obtain ⟨r0, m1, p1, h3, h4⟩ := M.gives_bnd h2
    refine wp_block (pathC_ok hM hcf it n d x hR hρ hm hp he h3 _ fun a1 w1 hp1 hA => ?_)
    obtain ⟨z, env1⟩ := r0
    cases z with
    | none =>
      obtain ⟨rfl, rfl, rfl⟩ := M.gives_pure (show (M.pure (⟨none, env1⟩ : XO)).gives c.ρ m1 p1 r m' q from h4)
      exact hQ a1 w1 hp1 hA
    | some z =>
      cases z with
      | normal => exact (M.gives_fail (s := "past the place") h4).elim
      | exit i =>
        have h4 : (selB (Nat.beq i id) (M.fail "past the place") (M.pure (⟨some (.exit i), env1⟩ : XO))).gives c.ρ m1 p1 r m' q := h4
        cases hb : Nat.beq i id with
        | true => rw [hb] at h4; exact (M.gives_fail (s := "past the place") h4).elim
        | false =>
          rw [hb] at h4
          obtain ⟨rfl, rfl, rfl⟩ := M.gives_pure h4
          have hq := hQ a1 w1 hp1 hA
          rw [beq_false] at hb
          show Exit.inBlock id Q (.exit i) a1 w1
          simp only [Exit.inBlock, if_neg hb]; exact hq
      | ret =>
        obtain ⟨rfl, rfl, rfl⟩ := M.gives_pure (show (M.pure (⟨some .ret, env1⟩ : XO)).gives c.ρ m1 p1 r m' q from h4)
        exact hQ a1 w1 hp1 hA
      | goto l =>
        obtain ⟨rfl, rfl, rfl⟩ := M.gives_pure (show (M.pure (⟨some (.goto l), env1⟩ : XO)).gives c.ρ m1 p1 r m' q from h4)
        exact hQ a1 w1 hp1 hA

noncomputable def evHeadC (hs : List (Nat × List Nat)) (P : Program) (cf : FuncId → List V → M V) (it n : Nat) (d : List Dir) (co : Code) (env : Env) : M XE := (evPathC hs P cf it n d co env).bnd headX

section piece
variable {P : Program} {cf : FuncId → List V → M V} {W0 : World} {J : (Nat → Int) → Prop} {m : Mem} {n : Nat} {env : Env} {p : Pc} {a : Act} {w : World} {Q : Exit → Act → World → Prop}

/-- a code up to a place ('normal': there) -/
theorem headC_ok {hs : List (Nat × List Nat)} (hM : P.follows .mixedOrders = true) (hcf : ∀ ρ, CallsOK P ρ cf) {d : List Dir} {co : Code} (hR : codeFlat co = true) {it : Nat} (hA : At W0 J m n env p a w)
    (h : ∀ ρ, J ρ → PcR ρ p → ∃ r m' q, (evHeadC hs P cf it n d co env m p).out ρ = some ⟨r, m', q⟩ ∧ ∀ a' w', At W0 (fun ρ' => ρ' = ρ) m' n r.env q a' w' →
      match r.x with
      | .normal => placeWp P d co Q a' w'
      | x => Q (exitOf x) a' w') : co.wp P Q a w := by
  obtain ⟨c, hJ, hm, hp, he, hd, hb, hw⟩ := hA
  obtain ⟨r, m', q, ho, hq⟩ := h c.ρ hJ hp
  obtain ⟨r0, m1, p1, h1, h2⟩ := M.gives_bnd (show ((evPathC hs P cf it n d co env).bnd headX).gives c.ρ m p r m' q from ho)
  refine pathC_ok hM (hcf c.ρ) it n d co hR rfl hm hp he h1 Q fun a' w' hpq hAf => ?_
  obtain ⟨c', s, he', hd'⟩ := hAf
  obtain ⟨k1, k2⟩ := below_step hb hw s
  obtain ⟨z, env1⟩ := r0
  cases z with
  | none =>
    obtain ⟨rfl, rfl, rfl⟩ := M.gives_pure (show (M.pure (⟨.normal, env1⟩ : XE)).gives c.ρ m1 p1 r m' q from h2)
    exact hq a' w' ⟨c', s.le.ρ, s.rel, by rw [s.le.ρ]; exact hpq, he', hd'.trans hd, k1, k2⟩
  | some z =>
    cases z with
    | normal => exact (M.gives_fail (s := "past the place") h2).elim
    | exit i =>
      obtain ⟨rfl, rfl, rfl⟩ := M.gives_pure (show (M.pure (⟨.exit i, env1⟩ : XE)).gives c.ρ m1 p1 r m' q from h2)
      exact hq a' w' ⟨c', s.le.ρ, s.rel, by rw [s.le.ρ]; exact hpq, he', hd'.trans hd, k1, k2⟩
    | ret =>
      obtain ⟨rfl, rfl, rfl⟩ := M.gives_pure (show (M.pure (⟨.ret, env1⟩ : XE)).gives c.ρ m1 p1 r m' q from h2)
      exact hq a' w' ⟨c', s.le.ρ, s.rel, by rw [s.le.ρ]; exact hpq, he', hd'.trans hd, k1, k2⟩
    | goto l =>
      obtain ⟨rfl, rfl, rfl⟩ := M.gives_pure (show (M.pure (⟨.goto l, env1⟩ : XE)).gives c.ρ m1 p1 r m' q from h2)
      exact hq a' w' ⟨c', s.le.ρ, s.rel, by rw [s.le.ρ]; exact hpq, he', hd'.trans hd, k1, k2⟩
end piece

section pieces
variable {P : Program} {cf : FuncId → List V → M V} {W0 : World} {n : Nat} {a : Act} {w : World} {fn : Func} {t : Nat}

/-- up to a place -/
theorem headC_hds {hs : List (Nat × List Nat)} (hM : P.follows .mixedOrders = true) (hcf : ∀ ρ, CallsOK P ρ cf) {d : List Dir} {co : Code} (hR : codeFlat co = true) (hr : fn.results = #[.tmp t]) {it : Nat} {H : Hds} {m : Mem} {env : Env} {p : Pc} {J : (Nat → Int) → Prop}
    {Q : Exit → Act → World → Prop} {qs : List Pc} (hc : ∀ ρ, J ρ → PcR ρ p → ∃ q ∈ qs, PcR ρ q) (hg : ∀ q ∈ qs, goodT (leafH H t) (evHeadC hs P cf it n d co env m q) = true)
    (hQ : ∀ h a w, H.ok h = true → AtHd W0 H n h (fun _ => True) a w → placeWp P d co Q a w) (hQr : ∀ a w, bodyPost P fn (LawEnd W0) .ret a w → Q .ret a w)
    (hA : At W0 J m n env p a w) : co.wp P Q a w := by
  obtain ⟨ρ, q, hq, _, _, hA⟩ := hA.pc hc
  refine headC_ok (hs := hs) (it := it) (d := d) hM hcf hR hA fun ρ' hρ hp => ?_
  subst hρ
  obtain ⟨x, env', m', q', h1, h2⟩ := goodT_out ρ' (hg q hq)
  refine ⟨⟨x, env'⟩, m', q', h1, fun a' w' hA' => ?_⟩
  cases x with
  | normal =>
    obtain ⟨h', r, k1, _, k3⟩ := toHd_ok (show toHd H (fun _ _ => true) env' m' q' = true from h2) hA'
    exact hQ h' a' w' k1 (k3.mono fun _ _ _ => trivial)
  | exit i => exact absurd (show false = true from h2) (by simp)
  | goto l => exact absurd (show false = true from h2) (by simp)
  | ret => exact hQr _ _ (retB_ok hr (x := .ret) (.inl rfl) hA' h2)

end pieces

end Go.Sy
