/-
  What is proved here: the evaluator's code and calls are the model's.
  Conditions: none.
-/
import Derived.Test.YthlpiijglhifmaaDoorSyDraw5
namespace Go.Sy

/-- from a loop's round on -/
def RoundWp (P : Program) (c : Code) (Q : Exit → Act → World → Prop) (a : Act) (w : World) : Prop :=
  ∀ (b : Frame) (k : List Item) (cs : List Frame), ∃ e a' w', Q e a' w' ∧ Arrives P (lone (b.at a (.code c :: .inLoop c :: k)) cs w) b k cs e a' w'

theorem RoundWp.round {P : Program} {c : Code} {Q : Exit → Act → World → Prop} {a : Act} {w : World} (h : c.wp P (Exit.then (RoundWp P c Q) Q) a w) : RoundWp P c Q a w := by
  intro b k cs
  obtain ⟨e, a₁, w₁, hq, harr⟩ := h b (.inLoop c :: k) cs
  cases e with
  | normal =>
    obtain ⟨e₂, a₂, w₂, hq₂, harr₂⟩ := hq b k cs
    exact ⟨e₂, a₂, w₂, hq₂, .of_steps (Steps.trans harr (.one step_inLoop)) harr₂⟩
  | exit id => exact ⟨_, a₁, w₁, hq, .pass (x := .inLoop c) rfl (fun _ _ => .inl (by simp)) harr⟩
  | goto l => exact ⟨_, a₁, w₁, hq, .pass (x := .inLoop c) rfl (fun _ _ => .inl (by simp)) harr⟩
  | ret => exact ⟨_, a₁, w₁, hq, .pass (x := .inLoop c) rfl (fun _ _ => .inl (by simp)) harr⟩
  | panic ch => exact ⟨_, a₁, w₁, hq, .pass (x := .inLoop c) rfl (fun _ _ => .inl (by simp)) harr⟩
  | outgrown => exact ⟨_, a₁, w₁, hq, .pass (x := .inLoop c) rfl (fun _ _ => .inl (by simp)) harr⟩

theorem RoundWp.loop {P : Program} {c : Code} {Q : Exit → Act → World → Prop} {a : Act} {w : World} (h : RoundWp P c Q a w) : (Code.loop c).wp P Q a w := by
  intro b k cs
  obtain ⟨e, a', w', hq, harr⟩ := h b k cs
  exact ⟨e, a', w', hq, .of_steps (.one step_loop) harr⟩

def exitOf : X → Exit
  | .normal => .normal
  | .exit id => .exit id
  | .ret => .ret

/-- the code does what the evaluator says -/
def CodeOK (P : Program) (ρ : Nat → Int) (n : Nat) (code : Code) (ev : Env → M XE) : Prop :=
  ∀ ⦃c : Cx⦄ ⦃m m' : Mem⦄ ⦃w : World⦄ ⦃p q : Pc⦄ ⦃env : Env⦄ ⦃r : XE⦄ ⦃a : Act⦄, c.ρ = ρ → MemR c m w → PcR c.ρ p → EnvR c n env a → (ev env).gives c.ρ m p r m' q →
    ∀ (Q : Exit → Act → World → Prop), (∀ a' w', PcR c.ρ q → After c m w m' n r.env a a' w' → Q (exitOf r.x) a' w') → code.wp P Q a w

section ops
variable {P : Program} {ρ : Nat → Int} {n : Nat}

theorem iter0_gives {c : Cx} {m m' : Mem} {p q : Pc} {r : XE} {s : XO} (h : (iter0 r).gives c.ρ m p s m' q) : m' = m ∧ q = p ∧ s.env = r.env ∧ s.x = (match r.x with | .normal => none | x => some x) := by
  obtain ⟨x, env⟩ := r
  cases x
  · obtain ⟨rfl, rfl, rfl⟩ := M.gives_pure (show (M.pure (⟨none, env⟩ : XO)).gives c.ρ m p s m' q from h); exact ⟨rfl, rfl, rfl, rfl⟩
  · obtain ⟨rfl, rfl, rfl⟩ := M.gives_pure (show (M.pure (⟨some (.exit _), env⟩ : XO)).gives c.ρ m p s m' q from h); exact ⟨rfl, rfl, rfl, rfl⟩
  · obtain ⟨rfl, rfl, rfl⟩ := M.gives_pure (show (M.pure (⟨some .ret, env⟩ : XO)).gives c.ρ m p s m' q from h); exact ⟨rfl, rfl, rfl, rfl⟩

/-- where a loop goes on -/
def goesTo (P : Program) (code : Code) (Q : Exit → Act → World → Prop) (x : Option X) (a : Act) (w : World) : Prop :=
  match x with
  | none => RoundWp P code Q a w
  | some x => Q (exitOf x) a w

theorem iter_ok {code : Code} {body : Env → M XE} (hb : CodeOK P ρ n code body) : ∀ (k : Nat) {c : Cx} {m m' : Mem} {w : World} {p q : Pc} {env : Env} {r : XO} {a : Act}, c.ρ = ρ → MemR c m w → PcR c.ρ p → EnvR c n env a → (iter body k env).gives c.ρ m p r m' q →
    ∀ (Q : Exit → Act → World → Prop), (∀ a' w', PcR c.ρ q → After c m w m' n r.env a a' w' → goesTo P code Q r.x a' w') → RoundWp P code Q a w
  | 0, c, m, m', w, p, q, env, r, a, hρ, hm, hp, he, h => by
    obtain ⟨r0, m1, p1, h1, h2⟩ := M.gives_bnd (show ((body env).bnd iter0).gives c.ρ m p r m' q from h)
    obtain ⟨rfl, rfl, h3, h4⟩ := iter0_gives h2
    intro Q hQ
    refine RoundWp.round (hb hρ hm hp he h1 _ fun a' w' hq hA => ?_)
    have hg := hQ a' w' hq (by rw [h3]; exact hA)
    obtain ⟨x, env'⟩ := r0
    rw [h4] at hg
    cases x <;> exact hg
  | k + 1, c, m, m', w, p, q, env, r, a, hρ, hm, hp, he, h => by
    obtain ⟨r0, m1, p1, h1, h2⟩ := M.gives_bnd (show ((iter body k env).bnd fun r => onXO r fun x e => (Option.rec (iter body k e) (fun _ => M.pure r) x : M XO)).gives c.ρ m p r m' q from h)
    intro Q hQ
    refine iter_ok hb k hρ hm hp he h1 Q fun a1 w1 hp1 hA => ?_
    obtain ⟨x, env1⟩ := r0
    cases x with
    | none =>
      obtain ⟨c1, s1, he1, hd⟩ := hA
      have hr := s1.le.ρ
      exact iter_ok hb k (hr.trans hρ) s1.rel (by rw [hr]; exact hp1) he1 (by rw [hr]; exact h2) Q fun a2 w2 hq hA2 => hQ a2 w2 (by rw [← hr]; exact hq) (hA2.trans s1 hd)
    | some x =>
      obtain ⟨rfl, rfl, rfl⟩ := M.gives_pure (show (M.pure (⟨some x, env1⟩ : XO)).gives c.ρ m1 p1 r m' q from h2)
      exact hQ a1 w1 hp1 hA

theorem condV_gives {c : Cx} {m : Mem} {p q : Pc} {v : V} {x : Value} {b : Bool} (hp : PcR c.ρ p) (hv : VR c v x) (h : (condV v).gives c.ρ m p b q) : PcR c.ρ q ∧ x = .bool b := by
  obtain ⟨e, rfl, h1⟩ := onBool_gives h
  obtain ⟨h2, h3⟩ := decR_gives hp h1
  rw [VR.bool] at hv
  exact ⟨h3, by rw [hv, h2]⟩

theorem evCode_ok (hM : P.follows .mixedOrders = true) {cf : FuncId → List V → M V} (hcf : CallsOK P ρ cf) (it : Nat) : ∀ (code : Code), codeRegs code = true → CodeOK P ρ n code (evCode code P cf it n)
  | .skip => by
    intro hR c m m' w p q env r a hρ hm hp he h Q hQ
    obtain ⟨rfl, rfl, rfl⟩ := M.gives_pure (show (M.pure (⟨.normal, env⟩ : XE)).gives c.ρ m p r m' q from h)
    exact wp_skip (hQ a w hp ⟨c, Step.refl hm, he, rfl⟩)
  | .label l => by
    intro hR c m m' w p q env r a hρ hm hp he h Q hQ
    obtain ⟨rfl, rfl, rfl⟩ := M.gives_pure (show (M.pure (⟨.normal, env⟩ : XE)).gives c.ρ m p r m' q from h)
    exact wp_label (hQ a w hp ⟨c, Step.refl hm, he, rfl⟩)
  | .exit id => by
    intro hR c m m' w p q env r a hρ hm hp he h Q hQ
    obtain ⟨rfl, rfl, rfl⟩ := M.gives_pure (show (M.pure (⟨.exit id, env⟩ : XE)).gives c.ρ m p r m' q from h)
    exact wp_exit (hQ a w hp ⟨c, Step.refl hm, he, rfl⟩)
  | .ret => by
    intro hR c m m' w p q env r a hρ hm hp he h Q hQ
    obtain ⟨rfl, rfl, rfl⟩ := M.gives_pure (show (M.pure (⟨.ret, env⟩ : XE)).gives c.ρ m p r m' q from h)
    exact wp_ret (hQ a w hp ⟨c, Step.refl hm, he, rfl⟩)
  | .seq x y => by
    intro hR c m m' w p q env r a hρ hm hp he h Q hQ
    obtain ⟨r0, m1, p1, h1, h2⟩ := M.gives_bnd (show ((evCode x P cf it n env).bnd fun r => onXE r fun z e => (X.rec (evCode y P cf it n e) (fun _ => M.pure r) (M.pure r) z : M XE)).gives c.ρ m p r m' q from h)
    obtain ⟨hR1, hR2⟩ := Bool.and_eq_true_iff.1 (show (codeRegs x && codeRegs y) = true from hR)
    refine wp_seq (evCode_ok hM hcf it x hR1 hρ hm hp he h1 _ fun a1 w1 hp1 hA => ?_)
    obtain ⟨z, env1⟩ := r0
    cases z with
    | normal =>
      obtain ⟨c1, s1, he1, hd⟩ := hA
      have hr := s1.le.ρ
      exact evCode_ok hM hcf it y hR2 (hr.trans hρ) s1.rel (by rw [hr]; exact hp1) he1 (by rw [hr]; exact h2) Q fun a2 w2 hq hA2 => hQ a2 w2 (by rw [← hr]; exact hq) (hA2.trans s1 hd)
    | exit id =>
      obtain ⟨rfl, rfl, rfl⟩ := M.gives_pure (show (M.pure (⟨.exit id, env1⟩ : XE)).gives c.ρ m1 p1 r m' q from h2)
      exact hQ a1 w1 hp1 hA
    | ret =>
      obtain ⟨rfl, rfl, rfl⟩ := M.gives_pure (show (M.pure (⟨.ret, env1⟩ : XE)).gives c.ρ m1 p1 r m' q from h2)
      exact hQ a1 w1 hp1 hA
  | .cond k x y => by
    intro hR c m m' w p q env r a hρ hm hp he h Q hQ
    obtain ⟨b, p1, h1, h2⟩ := R.gives_thn (show ((condV (opd k env)).thn fun b => (Bool.rec (evCode y P cf it n env) (evCode x P cf it n env) b : M XE)).gives c.ρ m p r m' q from h)
    obtain ⟨h3, h4⟩ := condV_gives hp (opd_ok he k) h1
    cases b with
    | false => exact wp_cond_false h4 (evCode_ok hM hcf it y (Bool.and_eq_true_iff.1 (show (codeRegs x && codeRegs y) = true from hR)).2 hρ hm h3 he h2 Q hQ)
    | true => exact wp_cond_true h4 (evCode_ok hM hcf it x (Bool.and_eq_true_iff.1 (show (codeRegs x && codeRegs y) = true from hR)).1 hρ hm h3 he h2 Q hQ)
  | .block id x => by
    intro hR c m m' w p q env r a hρ hm hp he h Q hQ
    obtain ⟨r0, m1, p1, h1, h2⟩ := M.gives_bnd (show ((evCode x P cf it n env).bnd (blockX id)).gives c.ρ m p r m' q from h)
    refine wp_block (evCode_ok hM hcf it x hR hρ hm hp he h1 _ fun a1 w1 hp1 hA => ?_)
    obtain ⟨z, env1⟩ := r0
    cases z with
    | normal =>
      obtain ⟨rfl, rfl, rfl⟩ := M.gives_pure (show (M.pure (⟨.normal, env1⟩ : XE)).gives c.ρ m1 p1 r m' q from h2)
      exact hQ a1 w1 hp1 hA
    | ret =>
      obtain ⟨rfl, rfl, rfl⟩ := M.gives_pure (show (M.pure (⟨.ret, env1⟩ : XE)).gives c.ρ m1 p1 r m' q from h2)
      exact hQ a1 w1 hp1 hA
    | exit i =>
      obtain ⟨rfl, rfl, rfl⟩ := M.gives_pure (show (M.pure (⟨selB (Nat.beq i id) .normal (.exit i), env1⟩ : XE)).gives c.ρ m1 p1 r m' q from h2)
      have hq := hQ a1 w1 hp1 hA
      show Exit.inBlock id Q (.exit i) a1 w1
      cases hb : Nat.beq i id with
      | true =>
        rw [hb] at hq
        rw [beq_iff] at hb; subst hb
        simp only [Exit.inBlock, if_true]; exact hq
      | false =>
        rw [hb] at hq
        rw [beq_false] at hb
        simp only [Exit.inBlock, if_neg hb]; exact hq
  | .loop x => by
    intro hR c m m' w p q env r a hρ hm hp he h Q hQ
    obtain ⟨r0, m1, p1, h1, h2⟩ := M.gives_bnd (show ((iter (evCode x P cf it n) it env).bnd loopX).gives c.ρ m p r m' q from h)
    refine RoundWp.loop (iter_ok (evCode_ok hM hcf it x hR) it hρ hm hp he h1 Q fun a1 w1 hp1 hA => ?_)
    obtain ⟨z, env1⟩ := r0
    cases z with
    | none => exact (M.gives_fail (s := "loop more rounds") h2).elim
    | some z =>
      obtain ⟨rfl, rfl, rfl⟩ := M.gives_pure (show (M.pure (⟨z, env1⟩ : XE)).gives c.ρ m1 p1 r m' q from h2)
      exact hQ a1 w1 hp1 hA
  | .region id ops d => by
    intro hR c m m' w p q env r a hρ hm hp he h Q hQ
    have h : (selB d (evDrawn ops P cf n env) (evReg ops P cf n env)).gives c.ρ m p r m' q := h
    cases d with
    | true =>
      obtain ⟨env1, m1, p1, h1, h2⟩ := M.gives_bnd (show ((evDr ops.toList ops P cf n 0 (fun _ => 0) env [] []).bnd fun env => M.pure (⟨.normal, env⟩ : XE)).gives c.ρ m p r m' q from h)
      obtain ⟨rfl, rfl, rfl⟩ := M.gives_pure h2
      have hR : regOK ops = true := by simpa [codeRegs] using hR
      refine drawn_ok (regF_of hR) hM hcf hρ hm (by rw [← hρ]; exact hp) he (by rw [← hρ]; exact h1) Q fun a' w' hq hA => hQ a' w' (by rw [hρ]; exact hq) hA
    | false =>
      obtain ⟨env1, m1, p1, h1, h2⟩ := M.gives_bnd (show ((evSeq ops.toList ops P cf n env).bnd fun env => M.pure (⟨.normal, env⟩ : XE)).gives c.ρ m p r m' q from h)
      obtain ⟨rfl, rfl, rfl⟩ := M.gives_pure h2
      exact wp_region_list (evSeq_ok hcf hρ hm hp he h1 Q hQ)
  | .rangeFunc _ _ _ _ => by intro hR c m m' w p q env r a hρ hm hp he h; exact (M.gives_fail (s := "code") h).elim
  | .scope _ => by intro hR c m m' w p q env r a hρ hm hp he h; exact (M.gives_fail (s := "code") h).elim
  | .refuse _ => by intro hR c m m' w p q env r a hρ hm hp he h; exact (M.gives_fail (s := "code") h).elim
  | .goto _ => by intro hR c m m' w p q env r a hρ hm hp he h; exact (M.gives_fail (s := "code") h).elim
end ops

end Go.Sy
