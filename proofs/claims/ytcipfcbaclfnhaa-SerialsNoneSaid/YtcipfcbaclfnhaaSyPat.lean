/-
  What is proved here: a state of the evaluator, with some of its cells and slots made general, stands for every state that fits.
  Conditions: none.
-/
import Derived.Test.YtcipfcbaclfnhaaSyLaid
namespace Go.Sy
open Go.RowKit (Below)

/-- what a general place holds -/
inductive G where
  | ofE (a : E)
  | ofB (c : B)
  deriving Inhabited

noncomputable def G.den (ρ : Nat → Int) : G → Int
  | .ofE a => a.den ρ
  | .ofB c => if c.den ρ then 1 else 0

/-- the variables from 'base' on, anew -/
noncomputable def sub (base : Nat) (s : List G) (ρ : Nat → Int) : Nat → Int := fun i =>
  if i < base then ρ i else match s[i - base]? with
    | some g => g.den ρ
    | none => ρ i

/-! ### values that mean the same before and after -/

/-- none of the variables base, .., base + k - 1 -/
noncomputable def E.old (base k : Nat) (e : E) : Bool := (E.rec (motive := fun _ => Bool) (fun _ => true) (fun i => orB (Nat.blt i base) (Nat.ble (Nat.add base k) i)) (fun _ _ _ _ ia ib => andB ia ib) (fun _ _ ia => ia) (fun _ _ _ _ _ ie => andB (Nat.ble (Nat.add base k) 1000) ie) (fun _ _ _ _ ie => ie) (e))
noncomputable def B.old (base k : Nat) (c : B) : Bool := (B.rec (motive := fun _ => Bool) (fun _ => true) (fun a b => andB (a.old base k) (b.old base k)) (fun a b => andB (a.old base k) (b.old base k)) (fun _ ih => ih) (c))

noncomputable def oldEs (base k : Nat) (l : List E) : Bool := allL (E.old base k) l
noncomputable def oldCp (nt : Nat) (c : Cp) : Bool := (Cp.rec (motive := fun _ => Bool) (fun _ => true) (fun i _ => Nat.blt i nt) (c))

noncomputable def oldV (base k nb nt : Nat) (v : V) : Bool := V.rec (motive_1 := fun _ => Bool) (motive_2 := fun _ => Bool)
  (fun b => b.old base k) (fun _ e => e.old base k) (fun l => oldEs base k l) true (fun i _ => Nat.blt i nb) true (fun i _ _ c => andB (Nat.blt i nb) (oldCp nt c)) true (fun i => Nat.blt i nb)
  (fun _ _ _ ia ib => andB ia ib) true (fun _ _ ih => ih) true (fun _ ih => ih) (fun _ ih => ih) true (fun i _ n => andB (Nat.blt i nb) (n.old base k)) (fun i _ e _ => andB (Nat.blt i nb) (e.old base k)) (fun _ _ => false) true (fun _ _ ih il => andB ih il) v

section old
variable {base nb nt : Nat} {s : List G} {ρ : Nat → Int}

theorem sub_old {i : Nat} (h : orB (Nat.blt i base) (Nat.ble (Nat.add base s.length) i) = true) : sub base s ρ i = ρ i := by
  unfold sub
  rcases orB_ok h with h1 | h1
  · rw [blt_iff] at h1; rw [if_pos h1]
  · rw [ble_iff] at h1
    have h1 : base + s.length ≤ i := h1
    rw [if_neg (by omega), List.getElem?_eq_none (by omega)]

theorem sub_row (h : Nat.ble (Nat.add base s.length) 1000 = true) {a r j : Nat} : sub base s ρ (rowVar a r j) = ρ (rowVar a r j) := by
  rw [ble_iff] at h
  have h : base + s.length ≤ 1000 := h
  unfold sub rowVar
  rw [if_neg (by omega), List.getElem?_eq_none (by omega)]

theorem E.old_den : ∀ {e : E}, e.old base s.length = true → e.den (sub base s ρ) = e.den ρ
  | .n _, _ => rfl
  | .x i, h => sub_old h
  | .bin op k a b, h => by
    obtain ⟨h1, h2⟩ := andB_ok (show andB (a.old base s.length) (b.old base s.length) = true from h)
    show binZ op k (a.den _) (b.den _) = binZ op k (a.den ρ) (b.den ρ)
    rw [E.old_den h1, E.old_den h2]
  | .cv k a, h => by
    show k.wrap (a.den _) = k.wrap (a.den ρ)
    rw [E.old_den (show a.old base s.length = true from h)]
  | .rd a r lo hi e, h => by
    obtain ⟨h1, h2⟩ := andB_ok (show andB (Nat.ble (Nat.add base s.length) 1000) (e.old base s.length) = true from h)
    show clampZ lo hi (sub base s ρ (rowVar a r (e.den _).toNat)) = clampZ lo hi (ρ (rowVar a r (e.den ρ).toNat))
    rw [E.old_den h2, sub_row h1]
  | .tab l lo hi e, h => by
    show clampZ lo hi (nthZ l (e.den _).toNat) = clampZ lo hi (nthZ l (e.den ρ).toNat)
    rw [E.old_den (show e.old base s.length = true from h)]

theorem B.old_den : ∀ {c : B}, c.old base s.length = true → c.den (sub base s ρ) = c.den ρ
  | .lit _, _ => rfl
  | .not a, h => by
    show (!a.den _) = !a.den ρ
    rw [B.old_den (show a.old base s.length = true from h)]
  | .lt a b, h => by
    obtain ⟨h1, h2⟩ := andB_ok (show andB (a.old base s.length) (b.old base s.length) = true from h)
    show decide (a.den _ < b.den _) = decide (a.den ρ < b.den ρ)
    rw [E.old_den h1, E.old_den h2]
  | .eq a b, h => by
    obtain ⟨h1, h2⟩ := andB_ok (show andB (a.old base s.length) (b.old base s.length) = true from h)
    show (a.den _ == b.den _) = (a.den ρ == b.den ρ)
    rw [E.old_den h1, E.old_den h2]

/-- what the names stand for, the variables anew -/
noncomputable def Cx.anew (c : Cx) (base : Nat) (s : List G) (nb nt : Nat) : Cx := ⟨c.β, c.γ, sub base s c.ρ, nb, nt⟩

variable {c : Cx}

theorem oldEs_den {l : List E} (h : oldEs base s.length l = true) : l.map (E.den (sub base s ρ)) = l.map (E.den ρ) :=
  List.map_congr_left fun e he => E.old_den (allL_ok h e he)

theorem oldCp_R {p : Cp} {k : Nat} (h : oldCp nt p = true) (hp : p.R c k) : p.R (c.anew base s nb nt) k := by
  cases p with
  | n => exact hp
  | t i j => exact ⟨(blt_iff _ _).1 h, hp.2⟩

mutual
theorem oldV_R : ∀ {v : V} {x : Value}, oldV base s.length nb nt v = true → VR c v x → VR (c.anew base s nb nt) v x
  | .bool b, x, h, hx => by rw [VR.bool] at *; rw [hx]; exact congrArg _ (B.old_den h).symm
  | .int k e, x, h, hx => by
    rw [VR.int] at *
    have e1 : e.den (c.anew base s nb nt).ρ = e.den c.ρ := E.old_den h
    rw [e1]; exact hx
  | .str l, x, h, hx => by
    rw [VR.str] at *
    obtain ⟨bs, e, hb⟩ := hx
    refine ⟨bs, e, ?_⟩
    unfold BR at *
    rw [← hb]; exact oldEs_den h
  | .nilPtr, x, _, hx => by unfold VR at *; exact hx
  | .ptr i o, x, h, hx => by rw [VR.ptr] at *; exact ⟨(blt_iff _ _).1 h, hx.2⟩
  | .nilSlice, x, _, hx => by unfold VR at *; exact hx
  | .slice i o len cp, x, h, hx => by
    obtain ⟨h1, h2⟩ := andB_ok (show andB (Nat.blt i nb) (oldCp nt cp) = true from h)
    rw [VR.slice] at *
    obtain ⟨_, cap, h3, h4⟩ := hx
    exact ⟨(blt_iff _ _).1 h1, cap, oldCp_R h2 h3, h4⟩
  | .nilMap, x, _, hx => by unfold VR at *; exact hx
  | .map i, x, h, hx => by rw [VR.map] at *; exact ⟨(blt_iff _ _).1 h, hx.2⟩
  | .func fn a b, x, h, hx => by
    obtain ⟨h1, h2⟩ := andB_ok (show andB (oldV base s.length nb nt (.agg a)) (oldV base s.length nb nt (.agg b)) = true from h)
    rw [VR.func] at *
    obtain ⟨as, bs, e, g1, g2⟩ := hx
    exact ⟨as, bs, e, oldVs_R h1 g1, oldVs_R h2 g2⟩
  | .nilFunc, x, _, hx => by unfold VR at *; exact hx
  | .iface t v, x, h, hx => by
    rw [VR.iface] at *
    obtain ⟨y, e, g1⟩ := hx
    exact ⟨y, e, oldV_R (show oldV base s.length nb nt v = true from h) g1⟩
  | .nilIface, x, _, hx => by unfold VR at *; exact hx
  | .agg l, x, h, hx => by
    rw [VR.agg] at *
    obtain ⟨xs, e, g1⟩ := hx
    exact ⟨xs, e, oldVs_R h g1⟩
  | .tuple l, x, h, hx => by
    rw [VR.tuple] at *
    obtain ⟨xs, e, g1⟩ := hx
    exact ⟨xs, e, oldVs_R (show oldV base s.length nb nt (.agg l) = true from h) g1⟩
  | .bad, x, _, _ => VR.bad
  | .eslice _ _, x, h, _ => (Bool.false_ne_true h).elim
  | .sarr i sz n, x, h, hx => by
    obtain ⟨h1, h2⟩ := andB_ok (show andB (Nat.blt i nb) (n.old base s.length) = true from h)
    rw [VR.sarr] at *
    obtain ⟨_, k, cap, g1, g2⟩ := hx
    exact ⟨(blt_iff _ _).1 h1, k, cap, by rw [← g1]; exact E.old_den h2, g2⟩
  | .sptr i sz e f, x, h, hx => by
    obtain ⟨h1, h2⟩ := andB_ok (show andB (Nat.blt i nb) (e.old base s.length) = true from h)
    rw [VR.sptr] at *
    obtain ⟨_, j, g1, g2⟩ := hx
    exact ⟨(blt_iff _ _).1 h1, j, by rw [← g1]; exact E.old_den h2, g2⟩
theorem oldVs_R : ∀ {l : List V} {xs : List Value}, oldV base s.length nb nt (.agg l) = true → VRs c l xs → VRs (c.anew base s nb nt) l xs
  | [], xs, _, hx => by rw [VRs.nil_iff] at *; exact hx
  | v :: l, xs, h, hx => by
    obtain ⟨h1, h2⟩ := andB_ok (show andB (oldV base s.length nb nt v) (oldV base s.length nb nt (.agg l)) = true from h)
    obtain ⟨x, ys, rfl, g1, g2⟩ := VRs.cons_iff.1 hx
    exact VRs.cons (oldV_R h1 g1) (oldVs_R h2 g2)
end
end old

/-! ### patterns -/

/-- a general place of the same kind -/
noncomputable def genV (v : V) (i : Nat) : V := (V.rec (motive_1 := fun _ => V) (motive_2 := fun _ => Unit) (fun _ => .bool (.eq (.x i) (.n 1))) (fun k _ => .int k (.x i)) (fun _ => .bad) (.bad) (fun _ _ => .bad) (.bad) (fun _ _ _ _ => .bad) (.bad) (fun _ => .bad) (fun _ _ _ _ _ => .bad) (.bad) (fun _ _ _ => .bad) (.bad) (fun _ _ => .bad) (fun _ _ => .bad) (.bad) (fun _ _ _ => .bad) (fun _ _ _ _ => .bad) (fun _ _ => .bad) Unit.unit (fun _ _ _ _ => Unit.unit) (v))

/-- what stands there -/
noncomputable def gOf (v u : V) : Option G := (V.rec (motive_1 := fun _ => Option G) (motive_2 := fun _ => Unit) (fun _ => onBool u (fun b => some (.ofB b)) none) (fun k _ => onInt u (fun k' e => selB (Nat.beq (kindNo k) (kindNo k')) (some (.ofE e)) none) none) (fun _ => none) (none) (fun _ _ => none) (none) (fun _ _ _ _ => none) (none) (fun _ => none) (fun _ _ _ _ _ => none) (none) (fun _ _ _ => none) (none) (fun _ _ => none) (fun _ _ => none) (none) (fun _ _ _ => none) (fun _ _ _ _ => none) (fun _ _ => none) Unit.unit (fun _ _ _ _ => Unit.unit) (v))

/-- a row of values, some of them general: from variable i on -/
noncomputable def genL (l : List V) : List Bool → Nat → List V := (List.rec (motive := fun _ => List Bool → Nat → List V) (fun _ _ => []) (fun v _ ih => fun ms i =>
  (List.rec (motive := fun _ => List V) (v :: ih [] i) (fun b r _ => (Bool.rec (motive := fun _ => List V) (v :: ih r i) (genV v i :: ih r (Nat.succ i)) (b))) (ms))) (l))

noncomputable def consO (g : Option G) (l : Option (List G)) : Option (List G) := (Option.rec (motive := fun _ => Option (List G)) (none) (fun g => (Option.rec (motive := fun _ => Option (List G)) (none) (fun l => some (g :: l)) (l))) (g))

/-- the row 'l', and the row that is to fit -/
noncomputable def fitL (ok : V → Bool) (l : List V) : List Bool → List V → Option (List G) := (List.rec (motive := fun _ => List Bool → List V → Option (List G)) (fun _ us => (List.rec (motive := fun _ => Option (List G)) (some []) (fun _ _ _ => none) (us))) (fun v _ ih => fun ms us => (List.rec (motive := fun _ => Option (List G)) (none) (fun u us _ => (List.rec (motive := fun _ => Option (List G)) (selB (andB (eqVV v u) (ok v)) (ih [] us) none) (fun b r _ => (Bool.rec (motive := fun _ => Option (List G)) (selB (andB (eqVV v u) (ok v)) (ih r us) none) (consO (gOf v u) (ih r us)) (b))) (ms))) (us))) (l))

/-- how many general ones -/
noncomputable def cntL (ms : List Bool) : List V → Nat := (List.rec (motive := fun _ => List V → Nat) (fun _ => 0) (fun b _ ih => fun l => (List.rec (motive := fun _ => Nat) (0) (fun _ r _ => (Bool.rec (motive := fun _ => Nat) (ih r) (Nat.succ (ih r)) (b))) (l))) (ms))

theorem gOf_ok {c : Cx} {base nb nt : Nat} {s : List G} {v u : V} {g : G} {x : Value} {i : Nat} (h : gOf v u = some g) (hu : VR c u x) (hi : s[i]? = some g) : VR (c.anew base s nb nt) (genV v (base + i)) x := by
  have hden : (c.anew base s nb nt).ρ (base + i) = g.den c.ρ := by
    show sub base s c.ρ (base + i) = _
    unfold sub
    rw [if_neg (by omega), show base + i - base = i by omega, hi]
  cases v with
  | int k e0 =>
    have h : onInt u (fun k' e => selB (Nat.beq (kindNo k) (kindNo k')) (some (G.ofE e)) none) none = some g := h
    rcases onInt_cases u (fun k' e => selB (Nat.beq (kindNo k) (kindNo k')) (some (G.ofE e)) none) none with ⟨k', e, rfl, he⟩ | he <;> rw [he] at h
    · cases hk : Nat.beq (kindNo k) (kindNo k') with
      | false => rw [hk] at h; exact absurd h (by simp [selB])
      | true =>
        rw [hk] at h
        have h : some (G.ofE e) = some g := h
        simp at h; subst h
        have := kindNo_inj hk
        subst this
        rw [VR.int] at hu
        show VR _ (V.int k (.x (base + i))) x
        rw [VR.int]
        show x = .int k ((c.anew base s nb nt).ρ (base + i)) ∧ kMin k ≤ (c.anew base s nb nt).ρ (base + i) ∧ (c.anew base s nb nt).ρ (base + i) ≤ kMax k
        rw [hden]; exact hu
    · simp at h
  | bool b0 =>
    have h : onBool u (fun b => some (G.ofB b)) none = some g := h
    rcases onBool_cases u (fun b => some (G.ofB b)) none with ⟨b, rfl, he⟩ | he <;> rw [he] at h
    · simp at h; subst h
      rw [VR.bool] at hu
      show VR _ (V.bool (.eq (.x (base + i)) (.n 1))) x
      rw [VR.bool]
      show x = .bool ((c.anew base s nb nt).ρ (base + i) == 1)
      rw [hden, hu]
      unfold G.den
      cases hb : b.den c.ρ <;> simp [hb]
    · simp at h
  | _ => exact absurd h (by simp [gOf])

theorem consO_ok {g : Option G} {l : Option (List G)} {r : List G} (h : consO g l = some r) : ∃ a b, g = some a ∧ l = some b ∧ r = a :: b := by
  cases g with
  | none => exact absurd h (by simp [consO])
  | some a => cases l with
    | none => exact absurd h (by simp [consO])
    | some b =>
      have h : some (a :: b) = some r := h
      simp at h
      exact ⟨a, b, rfl, rfl, h.symm⟩

theorem selB_some {α : Type} {c : Bool} {x : Option α} {a : α} (h : selB c x none = some a) : c = true ∧ x = some a := by
  cases c with
  | true => exact ⟨rfl, h⟩
  | false => exact absurd h (by simp [selB])

/-- what fits stands for the same -/
theorem fitL_ok {c : Cx} {base nb nt : Nat} {s : List G} : ∀ {l : List V} {ms : List Bool} {us : List V} {t : List G} {i : Nat}, fitL (oldV base s.length nb nt) l ms us = some t → (∀ j, j < t.length → s[i + j]? = t[j]?) →
    us.length = l.length ∧ (genL l ms (base + i)).length = l.length ∧ ∀ (j : Nat) (v u : V) (x : Value), (genL l ms (base + i))[j]? = some v → us[j]? = some u → VR c u x → VR (c.anew base s nb nt) v x
  | [], ms, us, t, i, h, _ => by
    cases us with
    | nil => exact ⟨rfl, rfl, fun j v u x hv => by simp [genL] at hv⟩
    | cons u us => exact absurd h (by simp [fitL])
  | v :: l, ms, us, t, i, h, hs => by
    cases us with
    | nil => exact absurd h (by simp [fitL])
    | cons u us =>
      have plain : ∀ r, selB (andB (eqVV v u) (oldV base s.length nb nt v)) (fitL (oldV base s.length nb nt) l r us) none = some t →
          (u :: us).length = (v :: l).length ∧ (v :: genL l r (base + i)).length = (v :: l).length ∧ ∀ (j : Nat) (v' u' : V) (x : Value), (v :: genL l r (base + i))[j]? = some v' → (u :: us)[j]? = some u' → VR c u' x → VR (c.anew base s nb nt) v' x := by
        intro r h
        obtain ⟨h1, h2⟩ := selB_some h
        obtain ⟨h3, h4⟩ := andB_ok h1
        have := eqVV_ok _ _ h3
        subst this
        obtain ⟨g1, g2, g3⟩ := fitL_ok h2 hs
        refine ⟨by simp [g1], by simp [g2], fun j v' u' x hv hu hx => ?_⟩
        cases j with
        | zero => simp at hv hu; subst hv; subst hu; exact oldV_R h4 hx
        | succ j => exact g3 j v' u' x (by simpa using hv) (by simpa using hu) hx
      cases ms with
      | nil => exact plain [] h
      | cons b r =>
        cases b with
        | false => exact plain r h
        | true =>
          obtain ⟨g, t', h1, h2, rfl⟩ := consO_ok (show consO (gOf v u) (fitL (oldV base s.length nb nt) l r us) = some t from h)
          have h0 : s[i]? = some g := by have := hs 0 (by simp); simpa using this
          obtain ⟨g1, g2, g3⟩ := fitL_ok (i := i + 1) h2 fun j hj => by
            have := hs (j + 1) (by simpa using hj)
            rw [show i + 1 + j = i + (j + 1) by omega]; simpa using this
          have e : genL (v :: l) (true :: r) (base + i) = genV v (base + i) :: genL l r (base + (i + 1)) := rfl
          rw [e]
          refine ⟨by simp [g1], by simp [g2], fun j v' u' x hv hu hx => ?_⟩
          cases j with
          | zero => simp at hv hu; subst hv; subst hu; exact gOf_ok h1 hx h0
          | succ j => exact g3 j v' u' x (by simpa using hv) (by simpa using hu) hx

end Go.Sy
