/-
  What is proved here: a row of operations in the order of the text.
  Conditions: none.
-/
import Derived.Test.YtcipfcbaclfnhaaSyOp3
import Derived.Tactics
namespace Go.Sy

section ops
variable {P : Program} {c : Cx} {m m' : Mem} {w : World} {p q : Pc} {n : Nat} {env env' : Env} {a : Act}

/-- behind a piece: the memory 'm'', the slots 'env'' -/
def After (c : Cx) (m : Mem) (w : World) (m' : Mem) (n : Nat) (env' : Env) (a a' : Act) (w' : World) : Prop :=
  ∃ c', Step c m w c' m' w' ∧ EnvR c' n env' a' ∧ a'.defers = a.defers

theorem put_defers (a : Act) (d : Option Nat) (v : Value) : (a.put d v).defers = a.defers := by cases d <;> rfl

theorem opM_ok (hm : MemR c m w) (hp : PcR c.ρ p) (he : EnvR c n env a) {cf : FuncId → List V → M V} (hcf : CallsOK P c.ρ cf) {o : Oper} (h : (opM o P cf n env).gives c.ρ m p env' m' q) :
    ∀ (K : Act → World → Prop) (Q : Exit → Act → World → Prop), (∀ a' w', PcR c.ρ q → After c m w m' n env' a a' w' → K a' w') → o.wp P a w K Q := by
  unfold opM at h
  cases hk : evKind o.op P cf env with
  | rd f =>
    rw [hk] at h
    obtain ⟨v, p1, h1, h2⟩ := R.gives_thn (show (f.thn (putM o.dst n env)).gives c.ρ m p env' m' q from h)
    obtain ⟨h3, z, h4, h5⟩ := rd_ok hm hp he hk h1
    obtain ⟨rfl, rfl, h6⟩ := putM_ok (w := w) hm he h5 h2
    intro K Q hK
    unfold Oper.wp
    rw [h4]
    exact hK _ _ h3 ⟨c, Step.refl hm, h6, put_defers _ _ _⟩
  | al f =>
    rw [hk] at h
    obtain ⟨v, m1, p1, h1, h2⟩ := M.gives_bnd (show ((allocM f).bnd (putM o.dst n env)).gives c.ρ m p env' m' q from h)
    obtain ⟨bs, p2, h3, h4⟩ := R.gives_thn (show (f.thn fun bs => (newBlk bs.1).bnd fun i => M.pure (bs.2.val i)).gives c.ρ m p v m1 p1 from h1)
    obtain ⟨i, m2, p3, h5, h6⟩ := M.gives_bnd h4
    obtain ⟨rfl, rfl, rfl⟩ := newBlk_gives h5
    obtain ⟨rfl, rfl, rfl⟩ := M.gives_pure h6
    obtain ⟨rfl, ob, z, h7, h8, h9⟩ := al_ok (w := w) hp he hk h3
    have s1 := Step.new hm h8
    rw [hm.nb] at h9
    obtain ⟨rfl, rfl, h10⟩ := putM_ok (c := c.addB w) s1.rel (he.mono s1.le) h9 (show (putM o.dst n env _).gives (c.addB w).ρ _ _ env' m' q from h2)
    intro K Q hK
    unfold Oper.wp
    rw [h7]
    exact hK _ _ hp ⟨_, s1, h10, put_defers _ _ _⟩
  | ef f =>
    rw [hk] at h
    obtain ⟨v, m1, p1, h1, h2⟩ := M.gives_bnd (show (f.bnd (putM o.dst n env)).gives c.ρ m p env' m' q from h)
    have h4 := ef_ok hm hp he hcf hk h1
    have hmm : m' = m1 ∧ q = p1 := by
      cases hd : o.dst with
      | none => rw [hd] at h2; obtain ⟨_, rfl, rfl⟩ := M.gives_pure (show (M.pure env).gives c.ρ m1 p1 env' m' q from h2); exact ⟨rfl, rfl⟩
      | some d =>
        rw [hd] at h2
        obtain ⟨_, h5⟩ := M.gives_if (show (selB (Nat.blt d n) (M.pure (env.put d v)) (M.fail "a slot beyond the frame")).gives c.ρ m1 p1 env' m' q from h2)
        obtain ⟨_, rfl, rfl⟩ := M.gives_pure h5
        exact ⟨rfl, rfl⟩
    obtain ⟨rfl, rfl⟩ := hmm
    refine fun K Q hK => h4 K Q fun c' w' z hq h5 h6 => ?_
    have h2' : (putM o.dst n env v).gives c'.ρ m' q env' m' q := by rw [h5.le.ρ]; exact h2
    obtain ⟨_, _, h7⟩ := putM_ok h5.rel (he.mono h5.le) h6 h2'
    exact hK _ _ hq ⟨c', h5, h7, put_defers _ _ _⟩
end ops

end Go.Sy
