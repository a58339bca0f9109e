/-
  What is proved here: the evaluator's calls are the model's.
  Conditions: none of the program's functions bears a certain name of Go's runtime.
-/
import Derived.Test.YtcipfcbaclfnhaaSyRun3
namespace Go.Sy

/-- what the evaluator asks of a function -/
noncomputable def goodFn (fn : Func) : Bool := !(fn.name == "runtime.NumGoroutine") && (match fn.body with | none => true | some c => codeRegs c)

/-- what the evaluator asks of a program: no function is the one that the model answers itself; the slots of each region are in order; Go's own orders -/
structure Plain (P : Program) : Prop where
  fns : ∀ (f : FuncId) (fn : Func), P.funcs[f]? = some fn → goodFn fn = true
  mixed : P.follows .mixedOrders = true

theorem Plain.of {P : Program} (h : P.funcs.toList.all goodFn = true) (hm : P.follows .mixedOrders = true) : Plain P :=
  ⟨fun f fn hf => List.all_eq_true.1 h fn (by have := Array.mem_of_getElem? hf; simpa using this), hm⟩

section ops
variable {P : Program} {ρ : Nat → Int}

/-- a result -/
def res1S (tmps : Array Value) : ResultVar → Sem Value
  | .tmp t => pure (tmps.getD t undef)
  | .cell a t => do loadVar t (← asAddr (tmps.getD a undef))

theorem res1_ok {c : Cx} {m : Mem} {w : World} {p q : Pc} {n : Nat} {env : Env} {a : Act} (hm : MemR c m w) (hp : PcR c.ρ p) (he : EnvR c n env a) {r : ResultVar} {v : V} (h : (res1 r P env).gives c.ρ m p v q) :
    q = p ∧ ∃ z, (res1S a.tmps r).run P w = .ok z w ∧ VR c v z := by
  cases r with
  | tmp t =>
    obtain ⟨rfl, rfl⟩ := R.gives_pure (show (R.pure (env t)).gives c.ρ m p v q from h)
    exact ⟨rfl, _, rfl, he.slot t⟩
  | cell s t =>
    obtain ⟨rfl, i, o, hx, y, h1, h2⟩ := loadPtr_ok hm hp (he.slot s) (show (loadPtr P t (env s)).gives c.ρ m p v q from h)
    refine ⟨rfl, y, ?_, h2⟩
    simp only [res1S, hx, asAddr, Sem.run_bind, Sem.run_pure, Result.andThen_ok, h1]

theorem resV_ok {c : Cx} {m : Mem} {w : World} {n : Nat} {env : Env} {a : Act} (hm : MemR c m w) (he : EnvR c n env a) : ∀ {rs : List ResultVar} {p q : Pc} {l : List V}, PcR c.ρ p → (resV rs P env).gives c.ρ m p l q →
    q = p ∧ ∃ zs, (rs.mapM (res1S a.tmps)).run P w = .ok zs w ∧ VRs c l zs
  | [], p, q, l, _, h => by
    obtain ⟨rfl, rfl⟩ := R.gives_pure (show (R.pure []).gives c.ρ m p l q from h)
    exact ⟨rfl, [], rfl, VRs.nil⟩
  | r :: rs, p, q, l, hp, h => by
    obtain ⟨v, p1, h1, h2⟩ := R.gives_bnd (show ((res1 r P env).bnd fun v => (resV rs P env).bnd fun r => R.pure (v :: r)).gives c.ρ m p l q from h)
    obtain ⟨rfl, z, h3, h4⟩ := res1_ok hm hp he h1
    obtain ⟨l', p2, h5, h6⟩ := R.gives_bnd h2
    obtain ⟨rfl, zs, h7, h8⟩ := resV_ok hm he hp h5
    obtain ⟨rfl, rfl⟩ := R.gives_pure h6
    refine ⟨rfl, z :: zs, ?_, VRs.cons h4 h8⟩
    rw [List.mapM_cons, Sem.run_bind, h3, Result.andThen_ok, Sem.run_bind, h7, Result.andThen_ok, Sem.run_pure]

theorem results_ok {c : Cx} {m : Mem} {w : World} {n : Nat} {env : Env} {a : Act} (hm : MemR c m w) (he : EnvR c n env a) {fn : Func} {p q : Pc} {l : List V} (hp : PcR c.ρ p) (h : (resV fn.results.toList P env).gives c.ρ m p l q) :
    q = p ∧ ∃ z, (results fn a.tmps).run P w = .ok z w ∧ VR c (oneV l) z := by
  obtain ⟨rfl, zs, h1, h2⟩ := resV_ok hm he hp h
  have hF : results fn a.tmps = (do let vs ← Array.mapM (res1S a.tmps) fn.results; pure (if h : vs.size = 1 then vs[0] else .tuple vs)) := by
    unfold results
    congr 1
  refine ⟨rfl, (if h : zs.toArray.size = 1 then zs.toArray[0] else .tuple zs.toArray), ?_, ?_⟩
  · rw [hF, Array.mapM_eq_mapM_toList, Sem.run_bind, Sem.run_map, h1]
    rfl
  · cases l with
    | nil =>
      rw [VRs.nil_iff] at h2; subst h2
      exact VR.tuple.2 ⟨#[], rfl, VRs.nil⟩
    | cons v l =>
      obtain ⟨x, ys, rfl, h3, h4⟩ := VRs.cons_iff.1 h2
      cases l with
      | nil => rw [VRs.nil_iff] at h4; subst h4; exact h3
      | cons u l =>
        obtain ⟨y, zs, rfl, h5, h6⟩ := VRs.cons_iff.1 h4
        rw [dif_neg (by simp)]
        exact VR.tuple.2 ⟨_, rfl, VRs.cons h3 (VRs.cons h5 h6)⟩

theorem setArgs_ok {c : Cx} : ∀ {l : List V} {xs : List Value} (i : Nat) {env : Env} {old : List Value}, old.length = i → VRs c l xs → (∀ j, VR c (env j) (old[j]?.getD undef)) → ∀ j, VR c (setArgs l i env j) ((old ++ xs)[j]?.getD undef)
  | [], xs, i, env, old, _, h, he, j => by
    rw [VRs.nil_iff] at h; subst h
    rw [List.append_nil]; exact he j
  | v :: l, xs, i, env, old, ho, h, he, j => by
    obtain ⟨x, ys, rfl, h1, h2⟩ := VRs.cons_iff.1 h
    have e : old ++ x :: ys = (old ++ [x]) ++ ys := by simp
    rw [e]
    refine setArgs_ok (i + 1) (by simp [ho]) h2 (fun j => ?_) j
    show VR c (Bool.rec (env j) v (Nat.beq j i)) _
    cases hj : Nat.beq j i with
    | true =>
      rw [beq_iff] at hj; subst hj
      have : (old ++ [x])[j]? = some x := by rw [List.getElem?_append_right (by omega)]; simp [ho]
      rw [this]; exact h1
    | false =>
      rw [beq_false] at hj
      have : (old ++ [x])[j]?.getD undef = old[j]?.getD undef := by
        rcases Nat.lt_or_ge j i with hlt | hge
        · rw [List.getElem?_append_left (by omega)]
        · rw [List.getElem?_eq_none (by simp; omega), List.getElem?_eq_none (by omega)]
      rw [this]; exact he j

theorem env_ok {c : Cx} (hg : GlobR c) {l : List V} {args : Array Value} (k : Nat) (h : VRs c l args.toList) :
    EnvR c (slots k l) (setArgs l 0 env0) { tmps := args ++ Array.replicate (k - args.size) undef, defers := [] } := by
  have hl : l.length = args.size := by have := h.length; simpa using this.symm
  refine ⟨?_, fun j => ?_, hg⟩
  · rw [Array.size_append, Array.size_replicate]
    show _ = (Bool.rec (lenL l) k (Nat.ble (lenL l) k) : Nat)
    rw [lenL_eq, hl]
    cases hb : Nat.ble args.size k with
    | true => rw [ble_iff] at hb; show _ = k; omega
    | false =>
      have : ¬ args.size ≤ k := fun e => by rw [(ble_iff _ _).2 e] at hb; simp at hb
      show _ = args.size; omega
  · have h1 := setArgs_ok (c := c) (l := l) (xs := args.toList) 0 (env := env0) (old := []) rfl h (fun j => by rw [List.getElem?_nil]; exact VR.undef) j
    have : (args ++ Array.replicate (k - args.size) undef).getD j undef = ([] ++ args.toList)[j]?.getD undef := by
      rw [Array.getD_eq_getD_getElem?, Array.getElem?_append, List.nil_append, Array.getElem?_toList]
      by_cases hj : j < args.size
      · rw [if_pos hj]
      · rw [if_neg hj, Array.getElem?_replicate, Array.getElem?_eq_none (by omega)]
        split <;> rfl
    rw [this]; exact h1

/-- the evaluator's run of f is the model's -/
def FnOK (P : Program) (ρ : Nat → Int) (f : FuncId) (ev : List V → M V) : Prop :=
  ∀ (l : List V) (c : Cx) (m m' : Mem) (w : World) (p q : Pc) (v : V) (args : Array Value), c.ρ = ρ → MemR c m w → PcR c.ρ p → GlobR c → VRs c l args.toList → (ev l).gives c.ρ m p v m' q → CallOK P f args c m w m' v q

/-- what is known is so -/
def KwOK (P : Program) (ρ : Nat → Int) (kw : Kw) : Prop :=
  ∀ (f : FuncId) (tr : (List V → M V) → List V → M V), kw f = some tr → ∀ ev, FnOK P ρ f ev → FnOK P ρ f (tr ev)

theorem kw0_ok : KwOK P ρ kw0 := fun f s h => by simp [kw0] at h

theorem evOne_ok (hP : Plain P) (it : Nat) {cf : FuncId → List V → M V} (hcf : CallsOK P ρ cf) (f : FuncId) : FnOK P ρ f (evOne P cf it f) := by
    intro l c m m' w p q v args hρ hm hp hg hl h
    have h : (Option.rec (M.fail "no such function") (fun fn => evBody P cf it fn l) P.funcs[f]? : M V).gives c.ρ m p v m' q := h
    cases hf : P.funcs[f]? with
    | none => rw [hf] at h; exact (M.gives_fail (s := "no such function") h).elim
    | some fn =>
      rw [hf] at h
      have h : (Option.rec (M.fail fn.name) (fun co => (evCode co P cf it (slots fn.ntmps l) (setArgs l 0 env0)).bnd (endX P fn)) fn.body : M V).gives c.ρ m p v m' q := h
      cases hb : fn.body with
      | none => rw [hb] at h; exact (M.gives_fail (s := fn.name) h).elim
      | some co =>
        rw [hb] at h
        obtain ⟨r, m1, p1, h1, h2⟩ := M.gives_bnd (show ((evCode co P cf it (slots fn.ntmps l) (setArgs l 0 env0)).bnd (endX P fn)).gives c.ρ m p v m' q from h)
        refine ⟨⟨fn, hf, by rw [hb]; rfl, by have := hP.fns f fn hf; simp [goodFn] at this; simpa using this.1⟩, calls_of_wp hf hb ?_⟩
        have hR : codeRegs co = true := by have := hP.fns f fn hf; simp [goodFn, hb] at this; exact this.2
        refine evCode_ok hP.mixed hcf it co hR hρ hm hp (env_ok hg fn.ntmps hl) h1 _ fun a w' hq hA => ?_
        obtain ⟨c1, s1, he1, hd⟩ := hA
        obtain ⟨x, env1⟩ := r
        have hr := s1.le.ρ
        have key : (∀ id, x ≠ .exit id ∧ x ≠ .goto id) → ((resV fn.results.toList P env1).thn fun l => M.pure (oneV l)).gives c.ρ m1 p1 v m' q →
            a.defers = [] ∧ ∃ y, (results fn a.tmps).run P w' = .ok y w' ∧ ∃ c' z, Ending.returned y = .returned z ∧ Step c m w c' m' w' ∧ VR c' v z ∧ PcR c.ρ q := by
          intro _ h3
          obtain ⟨rs, p2, h4, h5⟩ := R.gives_thn h3
          rw [← hr] at h4
          obtain ⟨rfl, z, h6, h7⟩ := results_ok s1.rel he1 (by rw [hr]; exact hq) h4
          obtain ⟨rfl, rfl, rfl⟩ := M.gives_pure h5
          exact ⟨hd, z, h6, c1, z, rfl, s1, h7, hq⟩
        cases x with
        | exit id => exact (M.gives_fail (s := "an exit") h2).elim
        | goto l => exact (M.gives_fail (s := "a goto") h2).elim
        | normal => exact key (fun _ => ⟨nofun, nofun⟩) h2
        | ret => exact key (fun _ => ⟨nofun, nofun⟩) h2

theorem evFn_ok (hP : Plain P) {kw : Kw} (hkw : KwOK P ρ kw) (it : Nat) : ∀ d, CallsOK P ρ (evFn P kw it d)
  | 0 => by
    intro f l c m m' w p q v args _ _ _ _ _ h
    exact (M.gives_fail (s := "calls too deep") h).elim
  | d + 1 => by
    have hone := fun f => evOne_ok hP it (evFn_ok hP hkw it d) f
    intro f l c m m' w p q v args hρ hm hp hg hl h
    have h : (Option.rec (evOne P (evFn P kw it d) it f) (fun tr => tr (evOne P (evFn P kw it d) it f)) (kw f) l : M V).gives c.ρ m p v m' q := h
    cases hk : kw f with
    | none => rw [hk] at h; exact hone f l c m m' w p q v args hρ hm hp hg hl h
    | some tr => rw [hk] at h; exact hkw f tr hk _ (hone f) l c m m' w p q v args hρ hm hp hg hl h
end ops
end Go.Sy
