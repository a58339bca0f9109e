/-
  What is proved here: a law in pieces, with what is left to show as arithmetic.
  Conditions: none.
-/
import Derived.Test.YtcipfcbaclfnhaaSyPath
namespace Go.Sy
open Go.RowKit (Below)

noncomputable def tagO (t : Nat) (o : Option (List G)) : Option (Nat × List G) := (Option.rec (motive := fun _ => Option (Nat × List G)) (none) (fun s => some (t, s)) (o))

/-- at the end of a round: on into the pattern (0), out of the block 'id' into the pattern (1), or back with the slot t (9) -/
noncomputable def tgtL (pt : Pt) (env : Env) (m : Mem) (id t : Nat) : Tgt := fun x env' m' => (X.rec (motive := fun _ => Option (Nat × List G)) (tagO 0 (fitSt pt env m env' m')) (fun i => selB (Nat.beq i id) (tagO 1 (fitSt pt env m env' m')) none) (boolAt env' t) (fun _ => none) (x))

/-- at a place: into the pattern (0), or back with the slot t (9) -/
noncomputable def tgtH (pt : Pt) (env : Env) (m : Mem) (t : Nat) : Tgt := fun x env' m' => (X.rec (motive := fun _ => Option (Nat × List G)) (tagO 0 (fitSt pt env m env' m')) (fun _ => none) (boolAt env' t) (fun _ => none) (x))

/-- at the end: back with the slot t (9) -/
noncomputable def tgtR (t : Nat) : Tgt := fun x env' _ => (X.rec (motive := fun _ => Option (Nat × List G)) (boolAt env' t) (fun _ => none) (boolAt env' t) (fun _ => none) (x))

theorem tagO_ok {t tag : Nat} {o : Option (List G)} {s : List G} (h : tagO t o = some (tag, s)) : tag = t ∧ o = some s := by
  cases o with
  | none => exact absurd (show none = some (tag, s) from h) (by simp)
  | some r =>
    have h : some (t, r) = some (tag, s) := h
    simp at h
    exact ⟨h.1.symm, by rw [h.2]⟩

theorem boolAt_tag {env : Env} {t tag : Nat} {s : List G} (h : boolAt env t = some (tag, s)) : tag = 9 := by
  rcases onBool_cases (env t) (fun b => some (9, [G.ofB b])) none with ⟨b, e, hb'⟩ | hb'
  · have hb : some (9, [G.ofB b]) = some (tag, s) := by rw [← hb']; exact h
    simp at hb; exact hb.1.symm
  · have hb : none = some (tag, s) := by rw [← hb']; exact h
    exact absurd hb (by simp)

/-- what a leaf owes: 'J' (and less of 'μ') on into the pattern; 'Jx' out of the loop; true where it goes back -/
def Owes (base : Nat) (p0 : Pc) (J Jx : (Nat → Int) → Prop) (ρ : Nat → Int) (v : Vc) : Prop :=
  match v.tag with
  | 0 => PcR (sub base v.s ρ) p0 ∧ J (sub base v.s ρ)
  | 1 => PcR (sub base v.s ρ) p0 ∧ Jx (sub base v.s ρ)
  | _ => ∀ g ∈ v.s, g.den ρ = 1

section laws
variable {P : Program} {cf : FuncId → List V → M V} {W0 : World} {J Jx : (Nat → Int) → Prop} {m0 : Mem} {n : Nat} {e0 : Env} {p p0 : Pc} {a : Act} {w : World} {fn : Func} {t : Nat}

/-- a loop of the law -/
theorem loop_vcs (hM : P.follows .mixedOrders = true) (hcf : ∀ ρ, CallsOK P ρ cf) {co : Code} (hR : codeRegs co = true) (hr : fn.results = #[.tmp t]) {it : Nat} {pt : Pt} {id : Nat} {l : List Vc} {Q : Exit → Act → World → Prop} (μ : (Nat → Int) → Nat)
    (hv : vcs (tgtL pt e0 m0 id t) (evCode co P cf it n (genEnv pt e0) (genMem pt m0) p0) = some l)
    (ho : ∀ v ∈ l, ∀ ρ, J ρ → PcR ρ p0 → PcR ρ v.q → Owes pt.base p0 (fun ρ' => J ρ' ∧ μ ρ' < μ ρ) Jx ρ v)
    (hQ : ∀ a w, At W0 Jx (genMem pt m0) n (genEnv pt e0) p0 a w → Q (.exit id) a w) (hQr : ∀ a w, bodyPost P fn (LawEnd W0) .ret a w → Q .ret a w)
    (hA : At W0 J (genMem pt m0) n (genEnv pt e0) p0 a w) : (Code.loop co).wp P Q a w := by
  refine loop_ok (it := it) hM hcf hR μ (fun ρ hJ hp => ?_) hA
  obtain ⟨r, m', q, tag, s, h1, h2, h3⟩ := vcs_out ρ hv
  refine ⟨r, m', q, h1, fun a' w' hA' => ?_⟩
  have ho := ho _ h3 ρ hJ hp
  obtain ⟨x, env'⟩ := r
  cases x with
  | normal =>
    obtain ⟨rfl, hf⟩ := tagO_ok (show tagO 0 (fitSt pt e0 m0 env' m') = some (tag, s) from h2)
    exact fit_ok hA' hf fun hq => ho hq
  | exit i =>
    obtain ⟨hi, h4⟩ := selB_some (show selB (Nat.beq i id) (tagO 1 (fitSt pt e0 m0 env' m')) none = some (tag, s) from h2)
    rw [beq_iff] at hi; subst hi
    obtain ⟨rfl, hf⟩ := tagO_ok h4
    exact hQ _ _ (fit_ok hA' hf fun hq => ho hq)
  | goto l => exact absurd (show none = some (tag, s) from h2) (by simp)
  | ret =>
    have h2 : boolAt env' t = some (tag, s) := h2
    have := boolAt_tag h2
    subst this
    exact hQr _ _ (ret_ok hr (x := .ret) (.inl rfl) hA' h2 fun hq => ho hq)

/-- up to a place -/
theorem head_vcs (hM : P.follows .mixedOrders = true) (hcf : ∀ ρ, CallsOK P ρ cf) {d : List Dir} {co : Code} (hR : codeRegs co = true) (hr : fn.results = #[.tmp t]) {it : Nat} {pt : Pt} {l : List Vc} {m : Mem} {env : Env} {J0 : (Nat → Int) → Prop}
    (hv : vcs (tgtH pt e0 m0 t) (evHead P cf it n d co env m p) = some l)
    (ho : ∀ v ∈ l, ∀ ρ, J0 ρ → PcR ρ p → PcR ρ v.q → Owes pt.base p0 J Jx ρ v)
    (hQ : ∀ a w, At W0 J (genMem pt m0) n (genEnv pt e0) p0 a w → placeWp P d co (bodyPost P fn (LawEnd W0)) a w)
    (hA : At W0 J0 m n env p a w) : co.wp P (bodyPost P fn (LawEnd W0)) a w := by
  refine head_ok (it := it) (d := d) hM hcf hR hA fun ρ hJ hp => ?_
  obtain ⟨r, m', q, tag, s, h1, h2, h3⟩ := vcs_out ρ hv
  refine ⟨r, m', q, h1, fun a' w' hA' => ?_⟩
  have ho := ho _ h3 ρ hJ hp
  obtain ⟨x, env'⟩ := r
  cases x with
  | normal =>
    obtain ⟨rfl, hf⟩ := tagO_ok (show tagO 0 (fitSt pt e0 m0 env' m') = some (tag, s) from h2)
    exact hQ _ _ (fit_ok hA' hf fun hq => ho hq)
  | exit i => exact absurd (show none = some (tag, s) from h2) (by simp)
  | goto l => exact absurd (show none = some (tag, s) from h2) (by simp)
  | ret =>
    have h2 : boolAt env' t = some (tag, s) := h2
    have := boolAt_tag h2
    subst this
    exact ret_ok hr (x := .ret) (.inl rfl) hA' h2 fun hq => ho hq

/-- to the end -/
theorem end_vcs (hM : P.follows .mixedOrders = true) (hcf : ∀ ρ, CallsOK P ρ cf) {co : Code} (hR : codeRegs co = true) (hr : fn.results = #[.tmp t]) {it : Nat} {l : List Vc} {m : Mem} {env : Env}
    (hv : vcs (tgtR t) (evCode co P cf it n env m p) = some l)
    {base : Nat} {J1 J2 : (Nat → Int) → Prop} (ho : ∀ v ∈ l, ∀ ρ, J ρ → PcR ρ p → PcR ρ v.q → Owes base p0 J1 J2 ρ v)
    (hA : At W0 J m n env p a w) : co.wp P (bodyPost P fn (LawEnd W0)) a w := by
  refine piece_ok (it := it) hM hcf hR hA fun ρ hJ hp => ?_
  obtain ⟨r, m', q, tag, s, h1, h2, h3⟩ := vcs_out ρ hv
  refine ⟨r, m', q, h1, fun a' w' hA' => ?_⟩
  have ho := ho _ h3 ρ hJ hp
  obtain ⟨x, env'⟩ := r
  cases x with
  | normal =>
    have h2 : boolAt env' t = some (tag, s) := h2
    have := boolAt_tag h2
    subst this
    exact ret_ok hr (x := .normal) (.inr rfl) hA' h2 fun hq => ho hq
  | exit i => exact absurd (show none = some (tag, s) from h2) (by simp)
  | goto l => exact absurd (show none = some (tag, s) from h2) (by simp)
  | ret =>
    have h2 : boolAt env' t = some (tag, s) := h2
    have := boolAt_tag h2
    subst this
    exact ret_ok hr (x := .ret) (.inl rfl) hA' h2 fun hq => ho hq
end laws

/-! ### facts as arithmetic -/

/-- the path's facts -/
def factsP (ρ : Nat → Int) : List (B × Bool) → Prop
  | [] => True
  | (c, v) :: l => c.den ρ = v ∧ factsP ρ l
def rngP (ρ : Nat → Int) : Nat → List (Int × Int) → Prop
  | _, [] => True
  | i, (lo, hi) :: l => (lo ≤ ρ i ∧ ρ i ≤ hi) ∧ rngP ρ (i + 1) l

theorem factsP_of {ρ : Nat → Int} : ∀ {l : List (B × Bool)}, (∀ c ∈ l, c.1.den ρ = c.2) → factsP ρ l
  | [], _ => trivial
  | (c, v) :: _, h => ⟨h (c, v) (.head _), factsP_of fun d hd => h d (.tail _ hd)⟩

theorem rngP_of {ρ : Nat → Int} : ∀ {l : List (Int × Int)} {i : Nat}, (∀ j lo hi, l[j]? = some (lo, hi) → lo ≤ ρ (i + j) ∧ ρ (i + j) ≤ hi) → rngP ρ i l
  | [], _, _ => trivial
  | (lo, hi) :: _, i, h => ⟨by have := h 0 lo hi rfl; simpa using this, rngP_of fun j lo' hi' hj => by
      have := h (j + 1) lo' hi' (by simpa using hj)
      rw [show i + 1 + j = i + (j + 1) by omega]; exact this⟩

theorem rngP_iff {ρ : Nat → Int} {l : List (Int × Int)} : RngR ρ l ↔ rngP ρ 0 l := by
  constructor
  · intro h; exact rngP_of fun j lo hi hj => by rw [Nat.zero_add]; exact h j lo hi hj
  · intro h j lo hi hj
    have key : ∀ {l : List (Int × Int)} {i j : Nat}, rngP ρ i l → l[j]? = some (lo, hi) → lo ≤ ρ (i + j) ∧ ρ (i + j) ≤ hi := by
      intro l
      induction l with
      | nil => intro i j _ h; simp at h
      | cons x l ih =>
        intro i j h hj
        obtain ⟨a, b⟩ := x
        cases j with
        | zero => simp at hj; obtain ⟨rfl, rfl⟩ := hj; exact h.1
        | succ j =>
          have := ih h.2 (by simpa using hj)
          rw [show i + (j + 1) = i + 1 + j by omega]; exact this
    have := key h hj
    rwa [Nat.zero_add] at this

theorem pcR_facts {ρ : Nat → Int} {cs : List (B × Bool)} {rng : List (Int × Int)} (h : PcR ρ ⟨cs, rng⟩) : factsP ρ cs ∧ rngP ρ 0 rng := ⟨factsP_of h.cs, rngP_iff.1 h.rng⟩
theorem pcR_of {ρ : Nat → Int} {rng : List (Int × Int)} (h : rngP ρ 0 rng) : PcR ρ ⟨[], rng⟩ := ⟨fun c hc => by simp at hc, rngP_iff.2 h⟩

section den
variable {ρ : Nat → Int}
theorem den_n {z : Int} : (E.n z).den ρ = z := rfl
theorem den_x {i : Nat} : (E.x i).den ρ = ρ i := rfl
theorem den_add {k : IntKind} {a b : E} (h1 : kMin k ≤ a.den ρ + b.den ρ) (h2 : a.den ρ + b.den ρ ≤ kMax k) : (E.bin .add k a b).den ρ = a.den ρ + b.den ρ := by
  show wrapZ k (a.den ρ + b.den ρ) = _
  rw [wrapZ_eq]; exact wrap_in k _ h1 h2
theorem den_sub {k : IntKind} {a b : E} (h1 : kMin k ≤ a.den ρ - b.den ρ) (h2 : a.den ρ - b.den ρ ≤ kMax k) : (E.bin .sub k a b).den ρ = a.den ρ - b.den ρ := by
  show wrapZ k (a.den ρ - b.den ρ) = _
  rw [wrapZ_eq]; exact wrap_in k _ h1 h2
theorem den_rem {k : IntKind} {a b : E} (h : 0 ≤ a.den ρ) : (E.bin .rem k a b).den ρ = a.den ρ % b.den ρ := by
  show (a.den ρ).tmod (b.den ρ) = _
  exact Int.tmod_eq_emod_of_nonneg h
theorem den_quo {k : IntKind} {a b : E} (h : 0 ≤ a.den ρ) (h1 : kMin k ≤ a.den ρ / b.den ρ) (h2 : a.den ρ / b.den ρ ≤ kMax k) : (E.bin .quo k a b).den ρ = a.den ρ / b.den ρ := by
  show wrapZ k ((a.den ρ).tdiv (b.den ρ)) = _
  rw [Int.tdiv_eq_ediv_of_nonneg h, wrapZ_eq]; exact wrap_in k _ h1 h2
theorem den_lt {a b : E} {v : Bool} : ((B.lt a b).den ρ = v) = (decide (a.den ρ < b.den ρ) = v) := rfl
theorem den_eq {a b : E} {v : Bool} : ((B.eq a b).den ρ = v) = ((a.den ρ == b.den ρ) = v) := rfl
theorem den_not {a : B} {v : Bool} : ((B.not a).den ρ = v) = ((!a.den ρ) = v) := rfl
end den

end Go.Sy
