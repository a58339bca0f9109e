/-
  What is proved here: the evaluator's slots and operands; an operation that reads, or makes a block, does what the model's does.
  Conditions: none.
-/
import Derived.Test.YtcipfcbaclfnhaaSyBytes
import Derived.Calls
namespace Go.Sy

/-- the globals' blocks have their own numbers -/
def GlobR (c : Cx) : Prop := 4096 ≤ c.nb ∧ ∀ i, i < 4096 → c.β i = (i, 0)

theorem GlobR.mono {c c' : Cx} (h : c.le c') (hg : GlobR c) : GlobR c' :=
  ⟨Nat.le_trans hg.1 h.nb, fun i hi => (h.β i (Nat.lt_of_lt_of_le hi hg.1)).trans (hg.2 i hi)⟩

/-- the slots -/
structure EnvR (c : Cx) (n : Nat) (env : Env) (a : Act) : Prop where
  size : a.tmps.size = n
  slot : ∀ j, VR c (env j) (a.tmps.getD j undef)
  glob : GlobR c

theorem EnvR.mono {c c' : Cx} {n : Nat} {env : Env} {a : Act} (h : c.le c') (he : EnvR c n env a) : EnvR c' n env a :=
  ⟨he.size, fun j => (he.slot j).mono h, he.glob.mono h⟩

section ops
variable {P : Program} {c : Cx} {m m' : Mem} {w : World} {p q : Pc} {n : Nat} {env : Env} {a : Act}

theorem opd_ok (he : EnvR c n env a) (x : Operand) : VR c (opd x env) (a.eval x) := by
  cases x with
  | tmp t => exact he.slot t
  | const v => exact constV_ok v
  | global g =>
    refine (?_ : VR c (selB (Nat.blt g 4096) (V.ptr g 0) .bad) (.pointer (some ⟨g, 0, none⟩)))
    cases hg : Nat.blt g 4096 with
    | false => exact VR.bad
    | true =>
      rw [blt_iff] at hg
      refine VR.ptr.2 ⟨Nat.lt_of_lt_of_le hg he.glob.1, ?_⟩
      unfold Cx.ad
      rw [he.glob.2 g hg]
  | func f => exact VR.func.2 ⟨#[], #[], rfl, VRs.nil, VRs.nil⟩

theorem opds_ok (he : EnvR c n env a) : ∀ (l : List Operand), VRs c (opds l env) (l.map a.eval)
  | [] => VRs.nil
  | x :: l => VRs.cons (opd_ok he x) (opds_ok he l)

theorem optV_ok (he : EnvR c n env a) (x : Option Operand) : OptR c (optV x env) (x.map a.eval) := by
  cases x with
  | none => rfl
  | some x => exact ⟨_, rfl, opd_ok he x⟩

theorem partsV_ok (he : EnvR c n env a) : ∀ (l : List (Nat × Operand)), PartsR c (partsV l env) (l.map fun x => (x.1, a.eval x.2))
  | [] => rfl
  | x :: l => ⟨_, _, rfl, rfl, opd_ok he x.2, partsV_ok he l⟩

theorem Act.put_tmps (a : Act) (d : Nat) (v : Value) : (a.put (some d) v).tmps = a.tmps.setIfInBounds d v := rfl

theorem put_ok (he : EnvR c n env a) {d : Nat} (hd : d < n) {v : V} {x : Value} (hv : VR c v x) : EnvR c n (env.put d v) (a.put (some d) x) := by
  refine ⟨by rw [Act.put_tmps]; simpa using he.size, fun j => ?_, he.glob⟩
  rw [Act.put_tmps]
  show VR c (Bool.rec (env j) v (Nat.beq j d)) _
  have hs := he.size
  cases hj : Nat.beq j d with
  | true =>
    rw [beq_iff] at hj; subst hj
    have : (a.tmps.setIfInBounds j x).getD j undef = x := by simp [Array.getD, hs, hd]
    rw [this]; exact hv
  | false =>
    rw [beq_false] at hj
    have : (a.tmps.setIfInBounds d x).getD j undef = a.tmps.getD j undef := by
      simp only [Array.getD_eq_getD_getElem?, Array.getElem?_setIfInBounds, if_neg (Ne.symm hj)]
    rw [this]; exact he.slot j

/-- into the slot, if there is one -/
theorem putM_ok (hm : MemR c m w) (he : EnvR c n env a) {d : Option Nat} {v : V} {x : Value} {env' : Env} (hv : VR c v x) (h : (putM d n env v).gives c.ρ m p env' m' q) :
    q = p ∧ m' = m ∧ EnvR c n env' (a.put d x) := by
  have _ := hm
  cases d with
  | none =>
    obtain ⟨rfl, rfl, rfl⟩ := M.gives_pure (show (M.pure env).gives c.ρ m p env' m' q from h)
    exact ⟨rfl, rfl, he⟩
  | some d =>
    obtain ⟨h1, h2⟩ := M.gives_if (show (selB (Nat.blt d n) (M.pure (env.put d v)) (M.fail "a slot beyond the frame")).gives c.ρ m p env' m' q from h)
    obtain ⟨rfl, rfl, rfl⟩ := M.gives_pure h2
    exact ⟨rfl, rfl, put_ok he ((blt_iff _ _).1 h1) hv⟩

theorem opds_arr (he : EnvR c n env a) (xs : Array Operand) : VRs c (opds xs.toList env) (xs.map a.eval).toList := by
  rw [Array.toList_map]; exact opds_ok he xs.toList

theorem parts_arr (he : EnvR c n env a) (ps : Array (Nat × Operand)) : PartsR c (partsV ps.toList env) (ps.map fun (i, x) => (i, a.eval x)).toList := by
  rw [Array.toList_map]; exact partsV_ok he ps.toList

theorem on1_gives {α : Type} {l : List V} {f : V → R α} {s : String} {v : α} (h : (on1 l f (R.fail s)).gives c.ρ m p v q) : ∃ x r, l = x :: r ∧ (f x).gives c.ρ m p v q := by
  cases l with
  | nil => exact (R.gives_fail (s := s) h).elim
  | cons x r => exact ⟨x, r, rfl, h⟩
theorem onT_gives {α : Type} {l : List TypeId} {f : TypeId → List TypeId → R α} {s : String} {v : α} (h : (onT l f (R.fail s)).gives c.ρ m p v q) : ∃ x r, l = x :: r ∧ (f x r).gives c.ρ m p v q := by
  cases l with
  | nil => exact (R.gives_fail (s := s) h).elim
  | cons x r => exact ⟨x, r, rfl, h⟩
theorem on2_gives {α : Type} {l : List V} {f : V → V → M α} {s : String} {v : α} (h : (on2 l f (M.fail s)).gives c.ρ m p v m' q) : ∃ x y r, l = x :: y :: r ∧ (f x y).gives c.ρ m p v m' q := by
  cases l with
  | nil => exact (M.gives_fail (s := s) h).elim
  | cons x r => cases r with
    | nil => exact (M.gives_fail (s := s) h).elim
    | cons y r => exact ⟨x, y, r, rfl, h⟩
theorem onTM_gives {α : Type} {l : List TypeId} {f : TypeId → List TypeId → M α} {s : String} {v : α} (h : (onT l f (M.fail s)).gives c.ρ m p v m' q) : ∃ x r, l = x :: r ∧ (f x r).gives c.ρ m p v m' q := by
  cases l with
  | nil => exact (M.gives_fail (s := s) h).elim
  | cons x r => exact ⟨x, r, rfl, h⟩

theorem head_arr {l : List V} {xs : Array Value} {x : V} {r : List V} (h : VRs c l xs.toList) (hl : l = x :: r) : ∃ X, xs[0]? = some X ∧ VR c x X := by
  subst hl
  obtain ⟨X, ys, hxs, h1, _⟩ := VRs.cons_iff.1 h
  exact ⟨X, by rw [← Array.getElem?_toList, hxs]; rfl, h1⟩
theorem head2_arr {l : List V} {xs : Array Value} {x y : V} {r : List V} (h : VRs c l xs.toList) (hl : l = x :: y :: r) : ∃ X Y, xs[0]? = some X ∧ xs[1]? = some Y ∧ VR c x X ∧ VR c y Y := by
  subst hl
  obtain ⟨X, ys, hxs, h1, h2⟩ := VRs.cons_iff.1 h
  obtain ⟨Y, zs, hys, h3, _⟩ := VRs.cons_iff.1 h2
  subst hys
  exact ⟨X, Y, by rw [← Array.getElem?_toList, hxs]; rfl, by rw [← Array.getElem?_toList, hxs]; rfl, h1, h3⟩
end ops

end Go.Sy
