/-
  What is proved here: a law's code in pieces: from a state of the evaluator on through a piece, and through a loop with an invariant.
  Conditions: none.
-/
import Derived.Test.YtcipfcbaclfnhaaSyPat2
namespace Go.Sy
open Go.RowKit (Below)

/-- the frame is in the evaluator's state (m, env, p), its variables being such that 'J'; what was there at 'W0' is as it was -/
def At (W0 : World) (J : (Nat → Int) → Prop) (m : Mem) (n : Nat) (env : Env) (p : Pc) (a : Act) (w : World) : Prop :=
  ∃ c : Cx, J c.ρ ∧ MemR c m w ∧ PcR c.ρ p ∧ EnvR c n env a ∧ a.defers = [] ∧ Below W0.heap.size W0 w ∧ ∀ b, Wr c m b → W0.heap.size ≤ b

theorem below_step {W0 w w' : World} {c c' : Cx} {m m' : Mem} (hb : Below W0.heap.size W0 w) (hw : ∀ b, Wr c m b → W0.heap.size ≤ b) (s : Step c m w c' m' w') : Below W0.heap.size W0 w' ∧ ∀ b, Wr c' m' b → W0.heap.size ≤ b :=
  ⟨hb.trans ⟨s.os, s.tape, s.output, s.size, fun k hk => s.frame k (Nat.lt_of_lt_of_le hk hb.size) fun h => by have := hw k h; omega⟩,
   fun b h => (s.wr b h).elim (hw b) (fun h => Nat.le_trans hb.size h)⟩

section piece
variable {P : Program} {cf : FuncId → List V → M V} {W0 : World} {J : (Nat → Int) → Prop} {m : Mem} {n : Nat} {env : Env} {p : Pc} {a : Act} {w : World} {Q : Exit → Act → World → Prop}

/-- a piece of code -/
theorem piece_ok (hM : P.follows .mixedOrders = true) (hcf : ∀ ρ, CallsOK P ρ cf) {co : Code} (hR : codeRegs co = true) {it : Nat} (hA : At W0 J m n env p a w)
    (h : ∀ ρ, J ρ → PcR ρ p → ∃ r m' q, (evCode co P cf it n env m p).out ρ = some ⟨r, m', q⟩ ∧ ∀ a' w', At W0 (fun ρ' => ρ' = ρ) m' n r.env q a' w' → Q (exitOf r.x) a' w') : co.wp P Q a w := by
  obtain ⟨c, hJ, hm, hp, he, hd, hb, hw⟩ := hA
  obtain ⟨r, m', q, ho, hq⟩ := h c.ρ hJ hp
  refine evCode_ok hM (hcf c.ρ) it co hR rfl hm hp he ho Q fun a' w' hpq hAf => ?_
  obtain ⟨c', s, he', hd'⟩ := hAf
  obtain ⟨h1, h2⟩ := below_step hb hw s
  exact hq a' w' ⟨c', s.le.ρ, s.rel, by rw [s.le.ρ]; exact hpq, he', hd'.trans hd, h1, h2⟩

/-- into a pattern -/
theorem fit_ok {pt : Pt} {env' : Env} {m' : Mem} {q p0 : Pc} {ρ : Nat → Int} {s : List G} (hA : At W0 (fun ρ' => ρ' = ρ) m' n env' q a w) (hf : fitSt pt env m env' m' = some s)
    (hJ : PcR ρ q → PcR (sub pt.base s ρ) p0 ∧ J (sub pt.base s ρ)) : At W0 J (genMem pt m) n (genEnv pt env) p0 a w := by
  obtain ⟨c, rfl, hm, hp, he, hd, hb, hw⟩ := hA
  obtain ⟨_, h1, h2, h3⟩ := fitSt_ok hf hm he
  obtain ⟨h4, h5⟩ := hJ hp
  exact ⟨_, h5, h1, h4, h2, hd, hb, fun b h => hw b (h3 b h)⟩

theorem At.mono {J' : (Nat → Int) → Prop} (h : At W0 J m n env p a w) (hJ : ∀ ρ, J ρ → PcR ρ p → J' ρ) : At W0 J' m n env p a w := by
  obtain ⟨c, h1, h2, h3, h4⟩ := h
  exact ⟨c, hJ _ h1 h3, h2, h3, h4⟩

/-- a loop -/
theorem loop_ok (hM : P.follows .mixedOrders = true) (hcf : ∀ ρ, CallsOK P ρ cf) {co : Code} (hR : codeRegs co = true) {it : Nat} (μ : (Nat → Int) → Nat)
    (h : ∀ ρ, J ρ → PcR ρ p → ∃ r m' q, (evCode co P cf it n env m p).out ρ = some ⟨r, m', q⟩ ∧ ∀ a' w', At W0 (fun ρ' => ρ' = ρ) m' n r.env q a' w' →
      match r.x with
      | .normal => At W0 (fun ρ' => J ρ' ∧ μ ρ' < μ ρ) m n env p a' w'
      | x => Q (exitOf x) a' w')
    (hA : At W0 J m n env p a w) : (Code.loop co).wp P Q a w := by
  refine RoundWp.loop ?_
  have key : ∀ k a w, At W0 (fun ρ => J ρ ∧ μ ρ < k) m n env p a w → RoundWp P co Q a w := by
    intro k
    induction k with
    | zero =>
      intro a w hA
      obtain ⟨c, hJ, _⟩ := hA
      exact absurd hJ.2 (by omega)
    | succ k ih =>
      intro a w hA
      refine RoundWp.round (piece_ok (it := it) hM hcf hR hA fun ρ hJ hp => ?_)
      obtain ⟨r, m', q, ho, hq⟩ := h ρ hJ.1 hp
      refine ⟨r, m', q, ho, fun a' w' hA' => ?_⟩
      have := hq a' w' hA'
      obtain ⟨x, e'⟩ := r
      cases x with
      | normal => exact ih a' w' (this.mono fun ρ' hJ' _ => ⟨hJ'.1, by have := hJ'.2; have := hJ.2; omega⟩)
      | exit id => exact this
      | ret => exact this
      | goto l => exact this
  obtain ⟨c, hJ, hrest⟩ := hA
  exact key (μ c.ρ + 1) a w ⟨c, ⟨hJ, by omega⟩, hrest⟩
end piece

/-! ### what is left to show, leaf by leaf -/

/-- a leaf: the path, what it must do, and with what -/
structure Vc where
  q : Pc
  tag : Nat
  s : List G

abbrev Tgt : Type := X → Env → Mem → Option (Nat × List G)

noncomputable def vcs (tgt : Tgt) (t : T (Rs XE)) : Option (List Vc) := (T.rec (motive := fun _ => Option (List Vc)) (fun r => onXE r.v fun x env => (Option.rec (motive := fun _ => Option (List Vc)) (none) (fun g => some [⟨r.p, g.1, g.2⟩]) (tgt x env r.m))) (fun _ _ _ ix iy => (Option.rec (motive := fun _ => Option (List Vc)) (none) (fun a => (Option.rec (motive := fun _ => Option (List Vc)) (none) (fun b => some (a ++ b)) (iy))) (ix))) (fun _ => none) (t))

theorem vcs_out {tgt : Tgt} (ρ : Nat → Int) : ∀ {t : T (Rs XE)} {l : List Vc}, vcs tgt t = some l → ∃ r m q tag s, t.out ρ = some ⟨r, m, q⟩ ∧ tgt r.x r.env m = some (tag, s) ∧ ⟨q, tag, s⟩ ∈ l
  | .ret ⟨⟨x, env⟩, m, q⟩, l, h => by
    have h : (Option.rec none (fun g => some [⟨q, g.1, g.2⟩]) (tgt x env m) : Option (List Vc)) = some l := h
    cases ht : tgt x env m with
    | none => rw [ht] at h; exact absurd h (by simp)
    | some g =>
      rw [ht] at h
      have h : some [(⟨q, g.1, g.2⟩ : Vc)] = some l := h
      simp at h; subst h
      exact ⟨⟨x, env⟩, m, q, g.1, g.2, rfl, ht, .head _⟩
  | .br c x y, l, h => by
    have h : (Option.rec none (fun a => Option.rec none (fun b => some (a ++ b)) (vcs tgt y)) (vcs tgt x) : Option (List Vc)) = some l := h
    cases hx : vcs tgt x with
    | none => rw [hx] at h; exact absurd h (by simp)
    | some la =>
      rw [hx] at h
      cases hy : vcs tgt y with
      | none => rw [hy] at h; exact absurd (show none = some l from h) (by simp)
      | some lb =>
        rw [hy] at h
        have h : some (la ++ lb) = some l := h
        simp at h; subst h
        simp only [T.out]
        cases c.den ρ with
        | true =>
          obtain ⟨r, m, q, tag, s, h1, h2, h3⟩ := vcs_out ρ hx
          exact ⟨r, m, q, tag, s, by simpa using h1, h2, List.mem_append_left _ h3⟩
        | false =>
          obtain ⟨r, m, q, tag, s, h1, h2, h3⟩ := vcs_out ρ hy
          exact ⟨r, m, q, tag, s, by simpa using h1, h2, List.mem_append_right _ h3⟩
  | .fail _, l, h => absurd (show none = some l from h) (by simp)

/-- the value returned: a bool in a slot -/
noncomputable def boolAt (env : Env) (t : Nat) : Option (Nat × List G) := onBool (env t) (fun b => some (9, [.ofB b])) none

/-- the law returns: its slot t holds true -/
theorem ret_ok {P : Program} {fn : Func} {t : Nat} (hr : fn.results = #[.tmp t]) {W0 : World} {m : Mem} {n : Nat} {env : Env} {q : Pc} {a : Act} {w : World} {ρ : Nat → Int} {tag : Nat} {s : List G} {x : X} (hx : x = .ret ∨ x = .normal)
    (hA : At W0 (fun ρ' => ρ' = ρ) m n env q a w) (hb : boolAt env t = some (tag, s)) (hv : PcR ρ q → ∀ g ∈ s, g.den ρ = 1) : bodyPost P fn (fun e w' => e = .returned (.bool true) ∧ Below W0.heap.size W0 w') (exitOf x) a w := by
  obtain ⟨c, rfl, hm, hp, he, hd, hbl, _⟩ := hA
  rcases onBool_cases (env t) (fun b => some (9, [G.ofB b])) none with ⟨b, e, hb'⟩ | hb'
  · have hb : some (9, [G.ofB b]) = some (tag, s) := by rw [← hb']; exact hb
    simp at hb
    obtain ⟨_, rfl⟩ := hb
    have h1 := hv hp (.ofB b) (.head _)
    have h2 : b.den c.ρ = true := by
      cases hb2 : b.den c.ρ with
      | true => rfl
      | false => simp [G.den, hb2] at h1
    have hs := he.slot t
    rw [e, VR.bool, h2] at hs
    have key : a.defers = [] ∧ ∃ v, (results fn a.tmps).run P w = .ok v w ∧ (Ending.returned v = .returned (.bool true) ∧ Below W0.heap.size W0 w) :=
      ⟨hd, _, results_tmp hr a.tmps P w, by rw [hs], hbl⟩
    rcases hx with rfl | rfl <;> exact key
  · have hb : none = some (tag, s) := by rw [← hb']; exact hb
    exact absurd hb (by simp)

/-- the law's call, out of its code -/
theorem law_code {P : Program} {f : FuncId} {fn : Func} {co : Code} {g : List (Nat × List V)} {shs : List Sh} (hsh : fn.params.toList.mapM (shapeOf P) = some shs) (hf : P.funcs[f]? = some fn) (hb : fn.body = some co)
    {H : Type} {enc : TypeId × Value → H} {W : World} {base : Nat} {args : Array Value} {ds : List (DataW H)} {ps : List MemPlace} (hval : ∀ (j : Nat) t v, fn.params[j]? = some t → args[j]? = some v → Value.okWide P W .any base t v)
    (hA : DataW.TrodAll enc P W 0 (fun _ => true) true fn.params.toList args.toList ds ps) (hw : ∀ ρ : Nat → Int, ∀ x ∈ g, x.1 < 4096 ∧ BlkR (cx0 ρ) W (x.1, 0) (.cells x.2 false false none))
    (h : ∀ a w, At W (fun _ => True) (mem0 g) (slots fn.ntmps (argsV shs 0)) (setArgs (argsV shs 0) 0 env0) ⟨[], argsRng shs⟩ a w → co.wp P (bodyPost P fn (LawEnd W)) a w) : Calls P f args W (LawEnd W) := by
  obtain ⟨cells, h1, h2⟩ := args_open hA (fun j t v ht hv => hval j t v (by simpa using ht) (by simpa using hv)) hsh
  let ρ : Nat → Int := fun j => valOf (cells.getD j undef)
  have h3 : VRs (cx0 ρ) (argsV shs 0) args.toList := h2 (cx0 ρ) 0 fun j _ => by show valOf (cells.getD (0 + j) undef) = _; rw [Nat.zero_add]
  have hp : PcR ρ ⟨[], argsRng shs⟩ := ⟨fun c hc => by simp at hc, fun i lo hi hr => by
    have hr : (argsRng shs)[i]? = some (lo, hi) := hr
    rw [argsRng_eq] at hr
    exact rng_open h1 i lo hi hr⟩
  refine calls_of_wp hf hb (h _ _ ⟨cx0 ρ, trivial, mem0_ok (hw ρ), hp, env_ok glob0 fn.ntmps h3, rfl, Below.refl _ _, fun b hb => absurd hb (mem0_wr b)⟩)

end Go.Sy
