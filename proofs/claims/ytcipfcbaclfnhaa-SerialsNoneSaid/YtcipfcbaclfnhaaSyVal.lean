/-
  What is proved here: what it is for a value of the evaluator to stand for a value of the model; the relation between the two memories; the laws of both.
  Conditions: none.
-/
import Derived.Test.YtcipfcbaclfnhaaSyMem
namespace Go.Sy

/-- what the abstract names stand for: a block's number and first cell; a token's number; a variable's -/
structure Cx where
  β : Nat → Nat × Nat
  γ : Nat → Nat
  ρ : Nat → Int
  nb : Nat
  nt : Nat

/-- 'c'' knows all that 'c' knows -/
structure Cx.le (c c' : Cx) : Prop where
  ρ : c'.ρ = c.ρ
  nb : c.nb ≤ c'.nb
  nt : c.nt ≤ c'.nt
  β : ∀ i, i < c.nb → c'.β i = c.β i
  γ : ∀ i, i < c.nt → c'.γ i = c.γ i

theorem Cx.le.refl (c : Cx) : c.le c := ⟨rfl, Nat.le_refl _, Nat.le_refl _, fun _ _ => rfl, fun _ _ => rfl⟩
theorem Cx.le.trans {a b c : Cx} (h : a.le b) (k : b.le c) : a.le c :=
  ⟨k.ρ.trans h.ρ, Nat.le_trans h.nb k.nb, Nat.le_trans h.nt k.nt, fun i hi => (k.β i (Nat.lt_of_lt_of_le hi h.nb)).trans (h.β i hi), fun i hi => (k.γ i (Nat.lt_of_lt_of_le hi h.nt)).trans (h.γ i hi)⟩

def Cx.ad (c : Cx) (i o : Nat) : Addr := ⟨(c.β i).1, (c.β i).2 + o, none⟩

def Cp.R (c : Cx) : Cp → Nat → Prop
  | .n k, cap => cap = k
  | .t i k, cap => i < c.nt ∧ cap + k = c.γ i

/-- the cell 'x' of that kind is the number 'z' -/
def Lf.Is (l : Lf) (z : Int) (x : Value) : Prop :=
  match l with
  | .int k => x = .int k z ∧ kMin k ≤ z ∧ z ≤ kMax k
  | .bool => x = .bool (z == 1) ∧ 0 ≤ z ∧ z ≤ 1

/-- terms of bytes -/
def BR (c : Cx) (l : List E) (bs : List UInt8) : Prop := l.map (E.den c.ρ) = bs.map fun b => (b.toNat : Int)

mutual
/-- the value 'v' stands for 'x' -/
def VR (c : Cx) : V → Value → Prop
  | .bool b, x => x = .bool (b.den c.ρ)
  | .int k e, x => x = .int k (e.den c.ρ) ∧ kMin k ≤ e.den c.ρ ∧ e.den c.ρ ≤ kMax k
  | .str l, x => ∃ s : ByteArray, x = .string s ∧ BR c l s.data.toList
  | .nilPtr, x => x = .pointer none
  | .ptr i o, x => i < c.nb ∧ x = .pointer (some (c.ad i o))
  | .nilSlice, x => x = .slice none 0 0
  | .slice i o len cp, x => i < c.nb ∧ ∃ cap, cp.R c cap ∧ len ≤ cap ∧ x = .slice (some (c.ad i o)) len cap
  | .nilMap, x => x = .map none
  | .map i, x => i < c.nb ∧ x = .map (some (c.β i).1)
  | .func fn a b, x => ∃ as bs : Array Value, x = .func fn as bs ∧ VRs c a as.toList ∧ VRs c b bs.toList
  | .nilFunc, x => x = .nilFunc
  | .iface t v, x => ∃ y, x = .iface t y ∧ VR c v y
  | .nilIface, x => x = .nilIface
  | .agg l, x => ∃ xs : Array Value, x = .agg xs ∧ VRs c l xs.toList
  | .tuple l, x => ∃ xs : Array Value, x = .tuple xs ∧ VRs c l xs.toList
  | .bad, _ => True
  | .sarr i _ len, x => i < c.nb ∧ ∃ n cap : Nat, len.den c.ρ = (n : Int) ∧ n ≤ 9223372036854775807 ∧ ((0 < n ∧ x = .slice (some (c.ad i 0)) n cap) ∨ (n = 0 ∧ ∃ a, x = .slice a 0 cap))
  | .eslice i z, x => i < c.nb ∧ ∃ o cap : Nat, x = .slice (some (c.ad i o)) 0 cap ∧ (z = true → cap = 0)
  | .sptr i sz e f, x => i < c.nb ∧ ∃ j : Nat, e.den c.ρ = (j : Int) ∧ x = .pointer (some (c.ad i (j * sz + f)))
def VRs (c : Cx) : List V → List Value → Prop
  | [], xs => xs = []
  | v :: l, xs => ∃ x ys, xs = x :: ys ∧ VR c v x ∧ VRs c l ys
end

theorem Cp.R.mono {c c' : Cx} (h : c.le c') {p : Cp} {k : Nat} (hp : p.R c k) : p.R c' k := by
  cases p with
  | n => exact hp
  | t i k => exact ⟨Nat.lt_of_lt_of_le hp.1 h.nt, by rw [h.γ i hp.1]; exact hp.2⟩

theorem BR.mono {c c' : Cx} (h : c.le c') {l : List E} {bs : List UInt8} (hb : BR c l bs) : BR c' l bs := by
  unfold BR at *; rw [h.ρ]; exact hb

mutual
theorem VR.mono {c c' : Cx} (h : c.le c') : ∀ {v : V} {x : Value}, VR c v x → VR c' v x
  | .bool b, x, hx => by unfold VR at *; rw [h.ρ]; exact hx
  | .int k e, x, hx => by unfold VR at *; rw [h.ρ]; exact hx
  | .str l, x, hx => by unfold VR at *; obtain ⟨s, e, hb⟩ := hx; exact ⟨s, e, hb.mono h⟩
  | .nilPtr, x, hx => by unfold VR at *; exact hx
  | .ptr i o, x, hx => by unfold VR Cx.ad at *; exact ⟨Nat.lt_of_lt_of_le hx.1 h.nb, by rw [h.β i hx.1]; exact hx.2⟩
  | .nilSlice, x, hx => by unfold VR at *; exact hx
  | .slice i o len cp, x, hx => by
    unfold VR Cx.ad at *
    obtain ⟨hi, cap, h1, h2, h3⟩ := hx
    exact ⟨Nat.lt_of_lt_of_le hi h.nb, cap, h1.mono h, h2, by rw [h.β i hi]; exact h3⟩
  | .nilMap, x, hx => by unfold VR at *; exact hx
  | .map i, x, hx => by unfold VR at *; exact ⟨Nat.lt_of_lt_of_le hx.1 h.nb, by rw [h.β i hx.1]; exact hx.2⟩
  | .func fn a b, x, hx => by unfold VR at *; obtain ⟨as, bs, e, h1, h2⟩ := hx; exact ⟨as, bs, e, VRs.mono h h1, VRs.mono h h2⟩
  | .nilFunc, x, hx => by unfold VR at *; exact hx
  | .iface t v, x, hx => by unfold VR at *; obtain ⟨y, e, h1⟩ := hx; exact ⟨y, e, VR.mono h h1⟩
  | .nilIface, x, hx => by unfold VR at *; exact hx
  | .agg l, x, hx => by unfold VR at *; obtain ⟨xs, e, h1⟩ := hx; exact ⟨xs, e, VRs.mono h h1⟩
  | .tuple l, x, hx => by unfold VR at *; obtain ⟨xs, e, h1⟩ := hx; exact ⟨xs, e, VRs.mono h h1⟩
  | .bad, x, _ => by unfold VR; trivial
  | .sarr i sz len, x, hx => by
    unfold VR Cx.ad at *
    obtain ⟨hi, n, cap, h1, h2⟩ := hx
    exact ⟨Nat.lt_of_lt_of_le hi h.nb, n, cap, by rw [h.ρ]; exact h1, by rw [h.β i hi]; exact h2⟩
  | .eslice i z, x, hx => by
    unfold VR Cx.ad at *
    obtain ⟨hi, o, cap, h1, h2⟩ := hx
    exact ⟨Nat.lt_of_lt_of_le hi h.nb, o, cap, by rw [h.β i hi]; exact h1, h2⟩
  | .sptr i sz e f, x, hx => by
    unfold VR Cx.ad at *
    obtain ⟨hi, j, h1, h2⟩ := hx
    exact ⟨Nat.lt_of_lt_of_le hi h.nb, j, by rw [h.ρ]; exact h1, by rw [h.β i hi]; exact h2⟩
theorem VRs.mono {c c' : Cx} (h : c.le c') : ∀ {l : List V} {xs : List Value}, VRs c l xs → VRs c' l xs
  | [], xs, hx => by unfold VRs at *; exact hx
  | v :: l, xs, hx => by unfold VRs at *; obtain ⟨x, ys, e, h1, h2⟩ := hx; exact ⟨x, ys, e, VR.mono h h1, VRs.mono h h2⟩
end

section lists
variable {c : Cx}
theorem VRs.nil_iff {xs : List Value} : VRs c [] xs ↔ xs = [] := by unfold VRs; exact Iff.rfl
theorem VRs.cons_iff {v : V} {l : List V} {xs : List Value} : VRs c (v :: l) xs ↔ ∃ x ys, xs = x :: ys ∧ VR c v x ∧ VRs c l ys := by
  constructor
  · intro h; unfold VRs at h; exact h
  · intro h; unfold VRs; exact h
theorem VRs.nil : VRs c [] [] := VRs.nil_iff.2 rfl
theorem VRs.cons {v : V} {l : List V} {x : Value} {xs : List Value} (h : VR c v x) (hs : VRs c l xs) : VRs c (v :: l) (x :: xs) := VRs.cons_iff.2 ⟨x, xs, rfl, h, hs⟩

theorem VRs.length : ∀ {l : List V} {xs : List Value}, VRs c l xs → xs.length = l.length
  | [], xs, h => by rw [VRs.nil_iff] at h; subst h; rfl
  | v :: l, xs, h => by
    obtain ⟨x, ys, rfl, _, h2⟩ := VRs.cons_iff.1 h
    simp [VRs.length h2]

theorem VRs.get : ∀ {l : List V} {xs : List Value} {n : Nat} {v : V}, VRs c l xs → l[n]? = some v → ∃ x, xs[n]? = some x ∧ VR c v x
  | [], _, _, _, _, h => by simp at h
  | u :: l, xs, 0, v, h, hv => by
    obtain ⟨x, ys, rfl, h1, _⟩ := VRs.cons_iff.1 h
    simp at hv; subst hv; exact ⟨x, by simp, h1⟩
  | u :: l, xs, n + 1, v, h, hv => by
    obtain ⟨x, ys, rfl, _, h2⟩ := VRs.cons_iff.1 h
    simp at hv
    obtain ⟨y, h3, h4⟩ := VRs.get h2 hv
    exact ⟨y, by simpa using h3, h4⟩

theorem VRs.append : ∀ {l l' : List V} {xs xs' : List Value}, VRs c l xs → VRs c l' xs' → VRs c (l ++ l') (xs ++ xs')
  | [], _, xs, _, h, h' => by rw [VRs.nil_iff] at h; subst h; exact h'
  | v :: l, _, xs, _, h, h' => by
    obtain ⟨x, ys, rfl, h1, h2⟩ := VRs.cons_iff.1 h
    exact VRs.cons h1 (VRs.append h2 h')

theorem VRs.of_get : ∀ {l : List V} {xs : List Value}, xs.length = l.length → (∀ (n : Nat) (v : V), l[n]? = some v → ∃ x, xs[n]? = some x ∧ VR c v x) → VRs c l xs
  | [], xs, h, _ => by rw [VRs.nil_iff]; exact List.eq_nil_of_length_eq_zero h
  | v :: l, xs, h, hg => by
    cases xs with
    | nil => simp at h
    | cons x xs =>
      obtain ⟨y, h1, h2⟩ := hg 0 v (by simp)
      simp at h1; subst h1
      exact VRs.cons h2 (VRs.of_get (by simpa using h) fun n u hu => by simpa using hg (n + 1) u (by simpa using hu))
end lists

/-! ### one arm at a time -/

section arms
variable {c : Cx} {x : Value}
theorem VR.bool {b : B} : VR c (.bool b) x ↔ x = .bool (b.den c.ρ) := by unfold VR; exact Iff.rfl
theorem VR.int {k : IntKind} {e : E} : VR c (.int k e) x ↔ x = .int k (e.den c.ρ) ∧ kMin k ≤ e.den c.ρ ∧ e.den c.ρ ≤ kMax k := by unfold VR; exact Iff.rfl
theorem VR.str {l : List E} : VR c (.str l) x ↔ ∃ s : ByteArray, x = .string s ∧ BR c l s.data.toList := by unfold VR; exact Iff.rfl
theorem VR.nilPtr : VR c .nilPtr x ↔ x = .pointer none := by unfold VR; exact Iff.rfl
theorem VR.ptr {i o : Nat} : VR c (.ptr i o) x ↔ i < c.nb ∧ x = .pointer (some (c.ad i o)) := by unfold VR; exact Iff.rfl
theorem VR.nilSlice : VR c .nilSlice x ↔ x = .slice none 0 0 := by unfold VR; exact Iff.rfl
theorem VR.slice {i o len : Nat} {cp : Cp} : VR c (.slice i o len cp) x ↔ i < c.nb ∧ ∃ cap, cp.R c cap ∧ len ≤ cap ∧ x = .slice (some (c.ad i o)) len cap := by unfold VR; exact Iff.rfl
theorem VR.nilMap : VR c .nilMap x ↔ x = .map none := by unfold VR; exact Iff.rfl
theorem VR.map {i : Nat} : VR c (.map i) x ↔ i < c.nb ∧ x = .map (some (c.β i).1) := by unfold VR; exact Iff.rfl
theorem VR.func {fn : Fn} {a b : List V} : VR c (.func fn a b) x ↔ ∃ as bs : Array Value, x = .func fn as bs ∧ VRs c a as.toList ∧ VRs c b bs.toList := by unfold VR; exact Iff.rfl
theorem VR.nilFunc : VR c .nilFunc x ↔ x = .nilFunc := by unfold VR; exact Iff.rfl
theorem VR.iface {t : TypeId} {v : V} : VR c (.iface t v) x ↔ ∃ y, x = .iface t y ∧ VR c v y := by
  constructor
  · intro h; unfold VR at h; exact h
  · intro h; unfold VR; exact h
theorem VR.nilIface : VR c .nilIface x ↔ x = .nilIface := by unfold VR; exact Iff.rfl
theorem VR.agg {l : List V} : VR c (.agg l) x ↔ ∃ xs : Array Value, x = .agg xs ∧ VRs c l xs.toList := by
  constructor
  · intro h; unfold VR at h; exact h
  · intro h; unfold VR; exact h
theorem VR.tuple {l : List V} : VR c (.tuple l) x ↔ ∃ xs : Array Value, x = .tuple xs ∧ VRs c l xs.toList := by
  constructor
  · intro h; unfold VR at h; exact h
  · intro h; unfold VR; exact h
theorem VR.bad : VR c .bad x := by unfold VR; trivial
theorem VR.eslice {i : Nat} {z : Bool} : VR c (.eslice i z) x ↔ i < c.nb ∧ ∃ o cap : Nat, x = .slice (some (c.ad i o)) 0 cap ∧ (z = true → cap = 0) := by unfold VR; exact Iff.rfl
theorem VR.sarr {i sz : Nat} {len : E} : VR c (.sarr i sz len) x ↔ i < c.nb ∧ ∃ n cap : Nat, len.den c.ρ = (n : Int) ∧ n ≤ 9223372036854775807 ∧ ((0 < n ∧ x = .slice (some (c.ad i 0)) n cap) ∨ (n = 0 ∧ ∃ a, x = .slice a 0 cap)) := by unfold VR; exact Iff.rfl
theorem VR.sptr {i sz : Nat} {e : E} {f : Nat} : VR c (.sptr i sz e f) x ↔ i < c.nb ∧ ∃ j : Nat, e.den c.ρ = (j : Int) ∧ x = .pointer (some (c.ad i (j * sz + f))) := by unfold VR; exact Iff.rfl
theorem VR.undef : VR c undefV undef := VR.tuple.2 ⟨#[], rfl, VRs.nil⟩
theorem VR.lit {v : Bool} : VR c (.bool (.lit v)) (.bool v) := VR.bool.2 rfl
end arms

/-! ### the elimination of values -/

section elim
variable {α : Type}
theorem onInt_cases (v : V) (f : IntKind → E → α) (d : α) : (∃ k e, v = .int k e ∧ onInt v f d = f k e) ∨ onInt v f d = d := by
  cases v <;> first | exact .inl ⟨_, _, rfl, rfl⟩ | exact .inr rfl
theorem onBool_cases (v : V) (f : B → α) (d : α) : (∃ b, v = .bool b ∧ onBool v f d = f b) ∨ onBool v f d = d := by
  cases v <;> first | exact .inl ⟨_, rfl, rfl⟩ | exact .inr rfl
theorem onStr_cases (v : V) (f : List E → α) (d : α) : (∃ l, v = .str l ∧ onStr v f d = f l) ∨ onStr v f d = d := by
  cases v <;> first | exact .inl ⟨_, rfl, rfl⟩ | exact .inr rfl
theorem onPtr_cases (v : V) (f : Nat → Nat → α) (d : α) : (∃ i o, v = .ptr i o ∧ onPtr v f d = f i o) ∨ onPtr v f d = d := by
  cases v <;> first | exact .inl ⟨_, _, rfl, rfl⟩ | exact .inr rfl
theorem onAgg_cases (v : V) (f : List V → α) (d : α) : (∃ l, v = .agg l ∧ onAgg v f d = f l) ∨ onAgg v f d = d := by
  cases v <;> first | exact .inl ⟨_, rfl, rfl⟩ | exact .inr rfl
theorem onTup_cases (v : V) (f : List V → α) (d : α) : (∃ l, v = .tuple l ∧ onTup v f d = f l) ∨ onTup v f d = d := by
  cases v <;> first | exact .inl ⟨_, rfl, rfl⟩ | exact .inr rfl
theorem onMap_cases (v : V) (f : Nat → α) (d : α) : (∃ i, v = .map i ∧ onMap v f d = f i) ∨ onMap v f d = d := by
  cases v <;> first | exact .inl ⟨_, rfl, rfl⟩ | exact .inr rfl
theorem onIface_cases (v : V) (f : TypeId → V → α) (d : α) : (∃ t x, v = .iface t x ∧ onIface v f d = f t x) ∨ onIface v f d = d := by
  cases v <;> first | exact .inl ⟨_, _, rfl, rfl⟩ | exact .inr rfl
end elim

section gives
variable {α : Type} {ρ : Nat → Int} {m m' : Mem} {p q : Pc} {s : String} {v : α}
theorem onInt_gives {x : V} {f : IntKind → E → R α} (h : (onInt x f (R.fail s)).gives ρ m p v q) : ∃ k e, x = .int k e ∧ (f k e).gives ρ m p v q := by
  cases x <;> first | exact ⟨_, _, rfl, h⟩ | exact (R.gives_fail h).elim
theorem onBool_gives {x : V} {f : B → R α} (h : (onBool x f (R.fail s)).gives ρ m p v q) : ∃ b, x = .bool b ∧ (f b).gives ρ m p v q := by
  cases x <;> first | exact ⟨_, rfl, h⟩ | exact (R.gives_fail h).elim
theorem onStr_gives {x : V} {f : List E → R α} (h : (onStr x f (R.fail s)).gives ρ m p v q) : ∃ l, x = .str l ∧ (f l).gives ρ m p v q := by
  cases x <;> first | exact ⟨_, rfl, h⟩ | exact (R.gives_fail h).elim
theorem onPtr_gives {x : V} {f : Nat → Nat → R α} (h : (onPtr x f (R.fail s)).gives ρ m p v q) : ∃ i o, x = .ptr i o ∧ (f i o).gives ρ m p v q := by
  cases x <;> first | exact ⟨_, _, rfl, h⟩ | exact (R.gives_fail h).elim
theorem onAgg_gives {x : V} {f : List V → R α} (h : (onAgg x f (R.fail s)).gives ρ m p v q) : ∃ l, x = .agg l ∧ (f l).gives ρ m p v q := by
  cases x <;> first | exact ⟨_, rfl, h⟩ | exact (R.gives_fail h).elim
theorem onTup_gives {x : V} {f : List V → R α} (h : (onTup x f (R.fail s)).gives ρ m p v q) : ∃ l, x = .tuple l ∧ (f l).gives ρ m p v q := by
  cases x <;> first | exact ⟨_, rfl, h⟩ | exact (R.gives_fail h).elim
theorem onIntM_gives {x : V} {f : IntKind → E → M α} (h : (onInt x f (M.fail s)).gives ρ m p v m' q) : ∃ k e, x = .int k e ∧ (f k e).gives ρ m p v m' q := by
  cases x <;> first | exact ⟨_, _, rfl, h⟩ | exact (M.gives_fail h).elim
theorem onStrM_gives {x : V} {f : List E → M α} (h : (onStr x f (M.fail s)).gives ρ m p v m' q) : ∃ l, x = .str l ∧ (f l).gives ρ m p v m' q := by
  cases x <;> first | exact ⟨_, rfl, h⟩ | exact (M.gives_fail h).elim
theorem onPtrM_gives {x : V} {f : Nat → Nat → M α} (h : (onPtr x f (M.fail s)).gives ρ m p v m' q) : ∃ i o, x = .ptr i o ∧ (f i o).gives ρ m p v m' q := by
  cases x <;> first | exact ⟨_, _, rfl, h⟩ | exact (M.gives_fail h).elim
theorem onMapM_gives {x : V} {f : Nat → M α} (h : (onMap x f (M.fail s)).gives ρ m p v m' q) : ∃ i, x = .map i ∧ (f i).gives ρ m p v m' q := by
  cases x <;> first | exact ⟨_, rfl, h⟩ | exact (M.gives_fail h).elim
theorem onIfaceM_gives {x : V} {f : TypeId → V → M α} (h : (onIface x f (M.fail s)).gives ρ m p v m' q) : ∃ t y, x = .iface t y ∧ (f t y).gives ρ m p v m' q := by
  cases x <;> first | exact ⟨_, _, rfl, h⟩ | exact (M.gives_fail h).elim
end gives

/-! ### the cells of a value -/

theorem V.cells_agg (l : List V) : (V.agg l).cells = l := rfl
theorem VR.cells {c : Cx} {v : V} {x : Value} (h : VR c v x) (hb : v ≠ .bad) : VRs c v.cells x.cells.toList := by
  cases v with
  | agg l => obtain ⟨xs, rfl, hs⟩ := VR.agg.1 h; exact hs
  | bad => exact absurd rfl hb
  | _ =>
    refine (?_ : VRs c [_] x.cells.toList)
    have hx : x.cells.toList = [x] := by
      cases x with
      | agg xs => exfalso; revert h; unfold VR; simp
      | _ => rfl
    rw [hx]; exact VRs.cons h VRs.nil

/-- a value that one cell holds is no aggregate -/
theorem VR.oneCell {c : Cx} {v : V} {x : Value} (h : VR c v x) (hb : v.cellb = true) : (∀ a, x ≠ .agg a) ∧ ∀ a, x ≠ .tuple a := by
  cases v <;> first | (exact (Bool.false_ne_true hb).elim) | (constructor <;> (intro a ha; subst ha; revert h; unfold VR; simp))

/-! ### memory -/

/-- the entries of a map -/
def EsR (c : Cx) (es : List (V × V × Nat)) (es' : List MapEntry) : Prop :=
  es'.length = es.length ∧ ∀ (n : Nat) (e : V × V × Nat), es[n]? = some e → ∃ e' : MapEntry, es'[n]? = some e' ∧ VR c e.1 e'.key ∧ VR c e.2.1 e'.val ∧ e'.born = e.2.2

/-- the entries of a map, in that order -/
def KvR (c : Cx) : List (V × V) → List MapEntry → Prop
  | [], [] => True
  | e :: es, e' :: es' => VR c e.1 e'.key ∧ VR c e.2 e'.val ∧ KvR c es es'
  | _, _ => False

/-- in some order -/
def PmR (c : Cx) (es : List (V × V)) (l : List MapEntry) : Prop := ∃ l', l'.Perm l ∧ KvR c es l'

def Blk.wrB : Blk → Bool
  | .cells _ wr _ _ => wr
  | .map _ _ wr => wr
  | .pm _ wr => wr
  | .siter _ _ => true
  | .srow _ _ _ => false

def Blk.plB : Blk → Bool
  | .cells _ _ pl _ => pl
  | _ => false

/-- two blocks that must not be one: one of them may be written, or both bear no mark of a string -/
def Blk.apt (b b' : Blk) : Bool := b.wrB || b'.wrB || (b.plB && b'.plB)

/-- a row without elements stands for nothing -/
def Blk.live (c : Cx) : Blk → Prop
  | .srow _ _ n => 0 < n.den c.ρ
  | _ => True

theorem Blk.wr_live {c : Cx} {b : Blk} (h : b.wrB = true) : b.live c := by
  cases b <;> first | trivial | (exact absurd h (by simp [Blk.wrB]))

theorem Blk.apt_left {b b' : Blk} (h : b.wrB = true) : b.apt b' = true := by simp [Blk.apt, h]
theorem Blk.apt_right {b b' : Blk} (h : b'.wrB = true) : b.apt b' = true := by simp [Blk.apt, h]

/-- the block 'b' stands for what lies at 'loc' -/
def BlkR (c : Cx) (w : World) (loc : Nat × Nat) : Blk → Prop
  | .cells l wr pl g => ∃ cs t fr, w.heap[loc.1]? = some (.cells cs t fr) ∧
      (∀ (j : Nat) (v : V), l[j]? = some v → ∃ x, cs[loc.2 + j]? = some x ∧ VR c v x) ∧
      (pl = true → fr = (0, 0)) ∧ (wr = true → fr = (0, 0) ∨ cs.size ≤ fr.1) ∧
      (match g with | none => True | some (tk, sz) => tk < c.nt ∧ loc.2 + c.γ tk * sz ≤ cs.size)
  | .map es clock _ => ∃ es', w.heap[loc.1]? = some (.map es' clock) ∧ EsR c es es'.toList
  | .pm es _ => ∃ es' k, w.heap[loc.1]? = some (.map es' k) ∧ PmR c es es'.toList
  | .siter l pos => ∃ s : ByteArray, w.heap[loc.1]? = some (.stringIter s pos) ∧ BR c l s.data.toList
  | .srow a ls n => 0 < n.den c.ρ → ∃ cs t fr, w.heap[loc.1]? = some (.cells cs t fr) ∧
      ∀ (q r : Nat) (l : Lf), (q : Int) < n.den c.ρ → ls[r]? = some l → ∃ x, cs[loc.2 + (q * ls.length + r)]? = some x ∧ l.Is (c.ρ (rowVar a r q)) x

structure MemR (c : Cx) (m : Mem) (w : World) : Prop where
  nb : c.nb = m.nb
  nt : c.nt = m.nt
  blk : ∀ i b, m.tr.get i = some b → i < c.nb ∧ BlkR c w (c.β i) b
  inj : ∀ i j b b', m.tr.get i = some b → m.tr.get j = some b' → i ≠ j → b.apt b' = true → b.live c → b'.live c → (c.β i).1 ≠ (c.β j).1
  tok : ∀ t n, m.tok.get t = some n → t < c.nt ∧ n ≤ c.γ t

theorem EsR.mono {c c' : Cx} (h : c.le c') {es : List (V × V × Nat)} {es' : List MapEntry} (he : EsR c es es') : EsR c' es es' :=
  ⟨he.1, fun n e hn => let ⟨e', h1, h2, h3, h4⟩ := he.2 n e hn; ⟨e', h1, h2.mono h, h3.mono h, h4⟩⟩

theorem KvR.mono {c c' : Cx} (h : c.le c') : ∀ {es : List (V × V)} {l : List MapEntry}, KvR c es l → KvR c' es l
  | [], [], _ => trivial
  | _ :: _, _ :: _, ⟨h1, h2, h3⟩ => ⟨h1.mono h, h2.mono h, h3.mono h⟩
  | [], _ :: _, h => h.elim
  | _ :: _, [], h => h.elim

theorem PmR.mono {c c' : Cx} (h : c.le c') {es : List (V × V)} {l : List MapEntry} (he : PmR c es l) : PmR c' es l :=
  let ⟨l', h1, h2⟩ := he; ⟨l', h1, h2.mono h⟩

theorem Blk.live_le {c c' : Cx} (h : c.le c') {b : Blk} : b.live c' ↔ b.live c := by
  cases b with
  | srow a ls n => show 0 < n.den c'.ρ ↔ 0 < n.den c.ρ; rw [h.ρ]
  | _ => exact Iff.rfl

theorem BlkR.mono {c c' : Cx} (h : c.le c') {w : World} {loc : Nat × Nat} {b : Blk} (hb : BlkR c w loc b) : BlkR c' w loc b := by
  cases b with
  | cells l wr pl g =>
    obtain ⟨cs, t, fr, h1, h2, h3, h4, h5⟩ := hb
    refine ⟨cs, t, fr, h1, fun j v hj => let ⟨x, a, b⟩ := h2 j v hj; ⟨x, a, b.mono h⟩, h3, h4, ?_⟩
    cases g with
    | none => trivial
    | some g => obtain ⟨tk, sz⟩ := g; exact ⟨Nat.lt_of_lt_of_le h5.1 h.nt, by show loc.2 + c'.γ tk * sz ≤ cs.size; rw [h.γ tk h5.1]; exact h5.2⟩
  | map es clock wr => obtain ⟨es', h1, h2⟩ := hb; exact ⟨es', h1, h2.mono h⟩
  | pm es wr => obtain ⟨es', k, h1, h2⟩ := hb; exact ⟨es', k, h1, h2.mono h⟩
  | siter l pos => obtain ⟨s, h1, h2⟩ := hb; exact ⟨s, h1, h2.mono h⟩
  | srow a ls n =>
    intro hn
    obtain ⟨cs, t, fr, h1, h2⟩ := hb (by rw [← h.ρ]; exact hn)
    exact ⟨cs, t, fr, h1, fun q r l hq hl => by rw [h.ρ] at *; exact h2 q r l hq hl⟩

/-- a block's relation hangs on its own place alone -/
theorem BlkR.world {c : Cx} {w w' : World} {loc : Nat × Nat} {b : Blk} (hw : w'.heap[loc.1]? = w.heap[loc.1]?) (hb : BlkR c w loc b) : BlkR c w' loc b := by
  cases b <;> (unfold BlkR at *; rw [hw]; exact hb)

theorem BlkR.world' {c : Cx} {w w' : World} {loc : Nat × Nat} {b : Blk} (hw : b.live c → w'.heap[loc.1]? = w.heap[loc.1]?) (hb : BlkR c w loc b) : BlkR c w' loc b := by
  cases b with
  | srow a ls n =>
    intro hn
    have := hb hn
    rw [← hw hn] at this; exact this
  | _ => exact hb.world (hw trivial)

theorem BlkR.lt {c : Cx} {w : World} {loc : Nat × Nat} {b : Blk} (hb : BlkR c w loc b) (hl : b.live c) : loc.1 < w.heap.size := by
  have key : ∀ o, w.heap[loc.1]? = some o → loc.1 < w.heap.size := fun o h => (Array.getElem?_eq_some_iff.1 h).1
  cases b with
  | cells => obtain ⟨cs, t, fr, h1, _⟩ := hb; exact key _ h1
  | map => obtain ⟨es', h1, _⟩ := hb; exact key _ h1
  | pm => obtain ⟨es', k, h1, _⟩ := hb; exact key _ h1
  | siter => obtain ⟨s, h1, _⟩ := hb; exact key _ h1
  | srow => obtain ⟨cs, t, fr, h1, _⟩ := hb hl; exact key _ h1

/-! ### steps -/

/-- the block 'b' is one that may be written -/
def Wr (c : Cx) (m : Mem) (b : Nat) : Prop := ∃ i blk, m.tr.get i = some blk ∧ blk.wrB = true ∧ (c.β i).1 = b

/-- from (c, m, w) on to (c', m', w'): what may not be written is as it was -/
structure Step (c : Cx) (m : Mem) (w : World) (c' : Cx) (m' : Mem) (w' : World) : Prop where
  rel : MemR c' m' w'
  le : c.le c'
  os : w'.os = w.os
  tape : w'.tape = w.tape
  output : w'.output = w.output
  size : w.heap.size ≤ w'.heap.size
  frame : ∀ b, b < w.heap.size → ¬ Wr c m b → w'.heap[b]? = w.heap[b]?
  wr : ∀ b, Wr c' m' b → Wr c m b ∨ w.heap.size ≤ b

theorem Step.refl {c : Cx} {m : Mem} {w : World} (h : MemR c m w) : Step c m w c m w :=
  ⟨h, Cx.le.refl c, rfl, rfl, rfl, Nat.le_refl _, fun _ _ _ => rfl, fun _ h => .inl h⟩

theorem Step.trans {c c1 c2 : Cx} {m m1 m2 : Mem} {w w1 w2 : World} (h : Step c m w c1 m1 w1) (k : Step c1 m1 w1 c2 m2 w2) : Step c m w c2 m2 w2 :=
  ⟨k.rel, h.le.trans k.le, k.os.trans h.os, k.tape.trans h.tape, k.output.trans h.output, Nat.le_trans h.size k.size,
   fun b hb hw => by
    rw [k.frame b (Nat.lt_of_lt_of_le hb h.size) (fun hw1 => (h.wr b hw1).elim hw (fun h' => by omega))]
    exact h.frame b hb hw,
   fun b hb => (k.wr b hb).elim (fun h1 => (h.wr b h1).elim .inl .inr) (fun h1 => .inr (Nat.le_trans h.size h1))⟩

theorem Step.drew {c : Cx} {m : Mem} {w : World} (h : MemR c m w) : Step c m w c m w.drew :=
  ⟨⟨h.nb, h.nt, h.blk, h.inj, h.tok⟩, Cx.le.refl c, rfl, rfl, rfl, Nat.le_refl _, fun _ _ _ => rfl, fun _ h => .inl h⟩

end Go.Sy
