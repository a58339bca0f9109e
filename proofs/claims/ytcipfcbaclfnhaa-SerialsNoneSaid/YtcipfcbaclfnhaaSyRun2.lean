/-
  What is proved here: guarded operations, and a region in the order of the text.
  Conditions: none.
-/
import Derived.Test.YtcipfcbaclfnhaaSyRun
namespace Go.Sy

section ops
variable {P : Program} {c : Cx} {m m' : Mem} {w : World} {p q : Pc} {n : Nat} {env env' : Env} {a : Act} {ops : Array Oper}

/-- the bool that a value is -/
def boolOf : Value → Option Bool
  | .bool b => some b
  | _ => none

theorem guardV_ok (hp : PcR c.ρ p) {v : V} {x : Value} {want b : Bool} (hv : VR c v x) (h : (guardV v want).gives c.ρ m p b q) :
    PcR c.ρ q ∧ (boolOf x == some want) = b := by
  cases v <;> first | exact (R.gives_fail (s := "guard") h).elim | skip
  case bool e =>
    rw [VR.bool] at hv; subst hv
    obtain ⟨u, p1, h1, h2⟩ := R.gives_bnd (show ((decR e).bnd fun v => R.pure (eqB v want)).gives c.ρ m p b q from h)
    obtain ⟨h3, h4⟩ := decR_gives hp h1
    obtain ⟨rfl, rfl⟩ := R.gives_pure h2
    refine ⟨h4, ?_⟩
    show (some (e.den c.ρ) == some want) = _
    rw [h3]
    cases u <;> cases want <;> rfl
  all_goals
    obtain ⟨rfl, rfl⟩ := R.gives_pure (show (R.pure false).gives c.ρ m p b q from h)
    refine ⟨hp, ?_⟩
    have hx : ∀ b, x ≠ .bool b := by rintro b rfl; revert hv; unfold VR; simp
    cases x <;> first | rfl | exact absurd rfl (hx _)

theorem guardR_ok (hp : PcR c.ρ p) (he : EnvR c n env a) {g : Nat × Bool} {b : Bool} (h : (guardR ops g n env).gives c.ρ m p b q) :
    PcR c.ρ q ∧ (yielded ops a.tmps g.1 == some g.2) = b := by
  unfold guardR at h
  cases hs : guardSlot ops g.1 with
  | none =>
    rw [hs] at h
    obtain ⟨rfl, rfl⟩ := R.gives_pure (show (R.pure false).gives c.ρ m p b q from h)
    have hs : (ops[g.1]?).bind (·.dst) = none := hs
    exact ⟨hp, by simp [yielded, hs]⟩
  | some d =>
    rw [hs] at h
    have hs : (ops[g.1]?).bind (·.dst) = some d := hs
    obtain ⟨h1, h2⟩ := R.gives_if (show (selB (Nat.blt d n) (guardV (env d) g.2) (R.fail "guard")).gives c.ρ m p b q from h)
    rw [blt_iff] at h1
    have hd : d < a.tmps.size := by rw [he.size]; exact h1
    obtain ⟨h3, h4⟩ := guardV_ok hp (he.slot d) h2
    refine ⟨h3, ?_⟩
    rw [← h4]
    have hg : a.tmps[d]? = some (a.tmps.getD d undef) := by simp [Array.getD, hd]
    unfold yielded
    rw [hs]
    show ((match a.tmps[d]? with | some (.bool b) => some b | _ => none) == some g.2) = _
    rw [hg]
    cases a.tmps.getD d undef <;> rfl

/-- what a guarded operation does, in the middle of a row -/
theorem opG_ok (hm : MemR c m w) (hp : PcR c.ρ p) (he : EnvR c n env a) {cf : FuncId → List V → M V} (hcf : CallsOK P c.ρ cf) {o : Oper} (h : (opG ops o P cf n env).gives c.ρ m p env' m' q) :
    ∀ (K : Act → World → Prop) (Q : Exit → Act → World → Prop), (∀ a' w', PcR c.ρ q → After c m w m' n env' a a' w' → K a' w') →
      if Region.wanted o (yielded ops a.tmps) then o.wp P a w K Q ∨ (o.asks P a w ∧ LetsOut Q) else K (a.put o.dst undef) w := by
  unfold opG at h
  cases hg : o.guard with
  | none =>
    rw [hg] at h
    have h2 := opM_ok hm hp he hcf (show (opM o P cf n env).gives c.ρ m p env' m' q from h)
    intro K Q hK
    have : Region.wanted o (yielded ops a.tmps) = true := by unfold Region.wanted; rw [hg]
    rw [if_pos this]
    exact .inl (h2 K Q hK)
  | some g =>
    rw [hg] at h
    obtain ⟨b, p1, h1, h2⟩ := R.gives_thn (show ((guardR ops g n env).thn fun w => (Bool.rec (putM o.dst n env undefV) (opM o P cf n env) w : M Env)).gives c.ρ m p env' m' q from h)
    obtain ⟨h3, h4⟩ := guardR_ok hp he h1
    have hw : Region.wanted o (yielded ops a.tmps) = b := by unfold Region.wanted; rw [hg]; exact h4
    cases b with
    | true =>
      have h6 := opM_ok hm h3 he hcf (show (opM o P cf n env).gives c.ρ m p1 env' m' q from h2)
      intro K Q hK
      rw [if_pos hw]
      exact .inl (h6 K Q hK)
    | false =>
      obtain ⟨rfl, rfl, h5⟩ := putM_ok hm he VR.undef (show (putM o.dst n env undefV).gives c.ρ m p1 env' m' q from h2)
      intro K Q hK
      rw [if_neg (by rw [hw]; simp)]
      exact hK _ _ h3 ⟨c, Step.refl hm, h5, put_defers _ _ _⟩

theorem After.trans {m1 : Mem} {a1 : Act} {w1 : World} {a2 : Act} {w2 : World} {c1 : Cx} (s : Step c m w c1 m1 w1) (d : a1.defers = a.defers) (h : After c1 m1 w1 m' n env' a1 a2 w2) : After c m w m' n env' a a2 w2 := by
  obtain ⟨c', h1, h2, h3⟩ := h
  exact ⟨c', s.trans h1, h2, h3.trans d⟩

theorem evSeq_ok {cf : FuncId → List V → M V} {ρ : Nat → Int} (hcf : CallsOK P ρ cf) : ∀ {l : List Oper} {c : Cx} {m m' : Mem} {w : World} {p q : Pc} {env env' : Env} {a : Act}, c.ρ = ρ → MemR c m w → PcR c.ρ p → EnvR c n env a → (evSeq l ops P cf n env).gives c.ρ m p env' m' q →
    ∀ (Q : Exit → Act → World → Prop), (∀ a' w', PcR c.ρ q → After c m w m' n env' a a' w' → Q .normal a' w') → wpList P ops Q l a w
  | [], c, m, m', w, p, q, env, env', a, _, hm, hp, he, h => by
    obtain ⟨rfl, rfl, rfl⟩ := M.gives_pure (show (M.pure env).gives c.ρ m p env' m' q from h)
    exact fun Q hQ => hQ _ _ hp ⟨c, Step.refl hm, he, rfl⟩
  | o :: l, c, m, m', w, p, q, env, env', a, hρ, hm, hp, he, h => by
    obtain ⟨env1, m1, p1, h1, h2⟩ := M.gives_bnd (show ((opG ops o P cf n env).bnd (evSeq l ops P cf n)).gives c.ρ m p env' m' q from h)
    intro Q hQ
    have h4 := opG_ok hm hp he (by rw [hρ]; exact hcf) h1 (wpList P ops Q l) Q (fun a1 w1 hp1 hA => by
      obtain ⟨c1, s1, he1, hd⟩ := hA
      have hr := s1.le.ρ
      exact evSeq_ok hcf (hr.trans hρ) s1.rel (by rw [hr]; exact hp1) he1 (by rw [hr]; exact h2) Q fun a2 w2 hq hA2 => hQ a2 w2 (by rw [← hr]; exact hq) (hA2.trans s1 hd))
    exact h4
end ops

end Go.Sy
