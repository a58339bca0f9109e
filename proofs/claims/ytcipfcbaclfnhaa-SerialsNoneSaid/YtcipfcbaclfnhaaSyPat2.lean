/-
  What is proved here: a pattern of a state, and what fits it.
  Conditions: none.
-/
import Derived.Test.YtcipfcbaclfnhaaSyPat
namespace Go.Sy
open Go.RowKit (Below)

/-- which slots are kept as they are, which are general, which blocks are kept, and which of their cells are general -/
structure Pt where
  base : Nat
  keep : List Nat
  gsl : List Nat
  blks : List (Nat × List Bool)

noncomputable def memN (l : List Nat) (j : Nat) : Bool := (List.rec (motive := fun _ => Bool) (false) (fun t _ ih => (Bool.rec (motive := fun _ => Bool) (ih) (true) (Nat.beq j t))) (l))

noncomputable def genS (l : List Nat) (env : Env) : Nat → Nat → V := (List.rec (motive := fun _ => Nat → Nat → V) (fun _ _ => .bad) (fun t _ ih => fun i j => (Bool.rec (motive := fun _ => V) (ih (Nat.succ i) j) (genV (env t) i) (Nat.beq j t))) (l))

noncomputable def genEnv (pt : Pt) (env : Env) : Env := fun j => selB (memN pt.keep j) (env j) (genS pt.gsl env pt.base j)

noncomputable def cntB (m : Mem) (b : Nat × List Bool) : Nat := onCells (m.tr.get b.1) (fun l _ _ _ => cntL b.2 l) 0

/-- one block of the pattern -/
noncomputable def gen1 (b : Option Blk) (ms : List Bool) (i : Nat) : Option Blk := onCells b (fun l wr pl g => some (.cells (genL l ms i) wr pl g)) b

noncomputable def genTr (bs : List (Nat × List Bool)) (m : Mem) : Nat → Tr Blk := (List.rec (motive := fun _ => Nat → Tr Blk) (fun _ => .nil) (fun b _ ih => fun i =>
  (Option.rec (motive := fun _ => Tr Blk) (ih (Nat.add i (cntB m b))) (fun k => (ih (Nat.add i (cntB m b))).set b.1 k) (gen1 (m.tr.get b.1) b.2 i))) (bs))

noncomputable def genMem (pt : Pt) (m : Mem) : Mem := ⟨genTr pt.blks m (Nat.add pt.base (lenL pt.gsl)), m.nb, .nil, m.nt⟩

noncomputable def cntBs (bs : List (Nat × List Bool)) (m : Mem) : Nat := (List.rec (motive := fun _ => Nat) (0) (fun b _ ih => Nat.add (cntB m b) ih) (bs))
noncomputable def Pt.k (pt : Pt) (m : Mem) : Nat := Nat.add (lenL pt.gsl) (cntBs pt.blks m)

noncomputable def fitS (l : List Nat) (env env' : Env) : Option (List G) := (List.rec (motive := fun _ => Option (List G)) (some []) (fun t _ ih => consO (gOf (env t) (env' t)) ih) (l))

noncomputable def eqG (a b : Option (Nat × Nat)) : Bool := (Option.rec (motive := fun _ => Bool) ((Option.rec (motive := fun _ => Bool) (true) (fun _ => false) (b))) (fun x => (Option.rec (motive := fun _ => Bool) (false) (fun y => andB (Nat.beq x.1 y.1) (Nat.beq x.2 y.2)) (b))) (a))
noncomputable def oldG (nt : Nat) (a : Option (Nat × Nat)) : Bool := (Option.rec (motive := fun _ => Bool) (true) (fun x => Nat.blt x.1 nt) (a))

noncomputable def catO (a b : Option (List G)) : Option (List G) := (Option.rec (motive := fun _ => Option (List G)) (none) (fun a => (Option.rec (motive := fun _ => Option (List G)) (none) (fun b => some (a ++ b)) (b))) (a))

noncomputable def eqLf (a b : Lf) : Bool := (Lf.rec (motive := fun _ => Bool) (fun k => (Lf.rec (motive := fun _ => Bool) (fun k' => Nat.beq (kindNo k) (kindNo k')) (false) (b))) ((Lf.rec (motive := fun _ => Bool) (fun _ => false) (true) (b))) (a))
noncomputable def eqLfs (a : List Lf) : List Lf → Bool := (List.rec (motive := fun _ => List Lf → Bool) (fun b => (List.rec (motive := fun _ => Bool) (true) (fun _ _ _ => false) (b))) (fun x _ ih => fun b => (List.rec (motive := fun _ => Bool) (false) (fun y r _ => andB (eqLf x y) (ih r)) (b))) (a))

noncomputable def fit1 (ok : V → Bool) (nt : Nat) (ms : List Bool) (b b' : Option Blk) : Option (List G) :=
  onCells b (fun l wr pl g => onCells b' (fun l' wr' pl' g' => selB (andB (eqB wr wr') (andB (eqB pl pl') (andB (eqG g g') (oldG nt g)))) (fitL ok l ms l') none) none)
    (onRow b (fun a ls n => onRow b' (fun a' ls' n' => selB (andB (Nat.beq a a') (andB (eqLfs ls ls') (andB (eqE n n') (ok (.int .i64 n))))) (some []) none) none) none)

noncomputable def fitBlk (ok : V → Bool) (bs : List (Nat × List Bool)) (m m' : Mem) : Option (List G) := (List.rec (motive := fun _ => Option (List G)) (some []) (fun b _ ih => selB (Nat.blt b.1 m.nb) (catO (fit1 ok m.nt b.2 (m.tr.get b.1) (m'.tr.get b.1)) ih) none) (bs))

noncomputable def fitSt (pt : Pt) (env : Env) (m : Mem) (env' : Env) (m' : Mem) : Option (List G) :=
  selB (andB (andB (Nat.ble 4096 m.nb) (Nat.ble (Nat.add pt.base (pt.k m)) 1000)) (allL (fun j => andB (eqVV (env j) (env' j)) (oldV pt.base (pt.k m) m.nb m.nt (env j))) pt.keep))
    ((Option.rec (motive := fun _ => Option (List G)) (none) (fun s => selB (Nat.beq (lenL s) (pt.k m)) (some s) none) (catO (fitS pt.gsl env env') (fitBlk (oldV pt.base (pt.k m) m.nb m.nt) pt.blks m m')))) none

theorem catO_ok {a b : Option (List G)} {r : List G} (h : catO a b = some r) : ∃ x y, a = some x ∧ b = some y ∧ r = x ++ y := by
  cases a with
  | none => exact absurd h (by simp [catO])
  | some x => cases b with
    | none => exact absurd h (by simp [catO])
    | some y =>
      have h : some (x ++ y) = some r := h
      simp at h
      exact ⟨x, y, rfl, rfl, h.symm⟩

theorem memN_iff {l : List Nat} {j : Nat} : memN l j = true ↔ j ∈ l := by
  induction l with
  | nil => simp [memN]
  | cons t l ih =>
    show (Bool.rec (memN l j) true (Nat.beq j t) : Bool) = true ↔ _
    cases h : Nat.beq j t with
    | true => rw [beq_iff] at h; subst h; simp
    | false =>
      rw [beq_false] at h
      rw [List.mem_cons]
      constructor
      · intro h1; exact .inr (ih.1 h1)
      · rintro (h1 | h1)
        · exact absurd h1 h
        · exact ih.2 h1

theorem eqG_ok {a b : Option (Nat × Nat)} (h : eqG a b = true) : a = b := by
  cases a with
  | none => cases b with
    | none => rfl
    | some y => exact absurd (show false = true from h) (by simp)
  | some x => cases b with
    | none => exact absurd (show false = true from h) (by simp)
    | some y =>
      obtain ⟨h1, h2⟩ := andB_ok (show andB (Nat.beq x.1 y.1) (Nat.beq x.2 y.2) = true from h)
      rw [beq_iff] at h1 h2
      obtain ⟨x1, x2⟩ := x
      obtain ⟨y1, y2⟩ := y
      simp at h1 h2
      rw [h1, h2]

theorem onCells_some {α : Type} {b : Option Blk} {f : List V → Bool → Bool → Option (Nat × Nat) → Option α} {a : α} (h : onCells b f none = some a) : ∃ l wr pl g, b = some (.cells l wr pl g) ∧ f l wr pl g = some a := by
  cases b with
  | none => exact absurd (show none = some a from h) (by simp)
  | some b => cases b with
    | cells l wr pl g => exact ⟨l, wr, pl, g, rfl, h⟩
    | _ => exact absurd (show none = some a from h) (by simp)

section fit
variable {c : Cx} {base nb nt : Nat} {s : List G} {w : World}

theorem fitL_len {ok : V → Bool} : ∀ {l : List V} {ms : List Bool} {us : List V} {t : List G}, fitL ok l ms us = some t → t.length = cntL ms l
  | [], ms, us, t, h => by
    cases us with
    | nil =>
      have h : some [] = some t := h
      simp at h; subst h
      cases ms <;> rfl
    | cons u us => exact absurd h (by simp [fitL])
  | v :: l, ms, us, t, h => by
    cases us with
    | nil => exact absurd h (by simp [fitL])
    | cons u us => cases ms with
      | nil =>
        obtain ⟨_, h2⟩ := selB_some (show selB (andB (eqVV v u) (ok v)) (fitL ok l [] us) none = some t from h)
        have := fitL_len h2
        rw [this]
        cases l <;> rfl
      | cons b r => cases b with
        | false =>
          obtain ⟨_, h2⟩ := selB_some (show selB (andB (eqVV v u) (ok v)) (fitL ok l r us) none = some t from h)
          have := fitL_len h2
          rw [this]; rfl
        | true =>
          obtain ⟨g, t', _, h2, rfl⟩ := consO_ok (show consO (gOf v u) (fitL ok l r us) = some t from h)
          show t'.length + 1 = cntL r l + 1
          rw [fitL_len h2]

theorem eqLf_ok {a b : Lf} (h : eqLf a b = true) : a = b := by
  cases a <;> cases b <;> first | rfl | (exact (Bool.false_ne_true h).elim) | (rw [kindNo_inj h])

theorem eqLfs_ok : ∀ {a b : List Lf}, eqLfs a b = true → a = b
  | [], [], _ => rfl
  | [], _ :: _, h => (Bool.false_ne_true h).elim
  | _ :: _, [], h => (Bool.false_ne_true h).elim
  | x :: a, y :: b, h => by
    obtain ⟨h1, h2⟩ := andB_ok (show andB (eqLf x y) (eqLfs a b) = true from h)
    rw [eqLf_ok h1, eqLfs_ok h2]

theorem onRow_some {α : Type} {b : Option Blk} {f : Nat → List Lf → E → Option α} {a : α} (h : onRow b f none = some a) : ∃ x ls n, b = some (.srow x ls n) ∧ f x ls n = some a := by
  cases b with
  | none => exact absurd (show none = some a from h) (by simp)
  | some b => cases b with
    | srow x ls n => exact ⟨x, ls, n, rfl, h⟩
    | _ => exact absurd (show none = some a from h) (by simp)

/-- one block -/
theorem fit1_ok (hrow : Nat.ble (Nat.add base s.length) 1000 = true) {ms : List Bool} {b b' : Option Blk} {t : List G} {i : Nat} (h : fit1 (oldV base s.length nb nt) nt ms b b' = some t) (hs : ∀ j, j < t.length → s[i + j]? = t[j]?) :
    t.length = onCells b (fun l _ _ _ => cntL ms l) 0 ∧ ∃ k k', gen1 b ms (base + i) = some k ∧ b' = some k' ∧ k'.wrB = k.wrB ∧ k'.plB = k.plB ∧ (k.live (c.anew base s nb nt) → k'.live c) ∧ ∀ loc, BlkR c w loc k' → BlkR (c.anew base s nb nt) w loc k := by
  cases b with
  | none => exact absurd (show none = some t from h) (by simp)
  | some b => cases b with
    | map => exact absurd (show none = some t from h) (by simp)
    | siter => exact absurd (show none = some t from h) (by simp)
    | pm => exact absurd (show none = some t from h) (by simp)
    | cells l wr pl g =>
      obtain ⟨l', wr', pl', g', rfl, h2⟩ := onCells_some (show onCells b' (fun l' wr' pl' g' => selB (andB (eqB wr wr') (andB (eqB pl pl') (andB (eqG g g') (oldG nt g)))) (fitL (oldV base s.length nb nt) l ms l') none) none = some t from h)
      obtain ⟨h3, h4⟩ := selB_some h2
      obtain ⟨h5, h6⟩ := andB_ok h3
      obtain ⟨h7, h8⟩ := andB_ok h6
      obtain ⟨h9, h10⟩ := andB_ok h8
      have e3 := eqB_iff' h5
      have e4 := eqB_iff' h7
      have e5 := eqG_ok h9
      subst e3; subst e4; subst e5
      refine ⟨fitL_len h4, _, _, rfl, rfl, rfl, rfl, fun _ => trivial, fun loc hR => ?_⟩
      obtain ⟨cs, ty, fr, g1, g2, g3, g4, g5⟩ := hR
      obtain ⟨f1, f2, f3⟩ := fitL_ok (c := c) (base := base) (s := s) (nb := nb) (nt := nt) (i := i) h4 hs
      refine ⟨cs, ty, fr, g1, fun j v hj => ?_, g3, g4, ?_⟩
      · have hlt : j < l'.length := by
          have := (List.getElem?_eq_some_iff.1 hj).1
          omega
        obtain ⟨y, hy, hv⟩ := g2 j l'[j] (List.getElem?_eq_getElem hlt)
        exact ⟨y, hy, f3 j v l'[j] y hj (List.getElem?_eq_getElem hlt) hv⟩
      · cases g with
        | none => trivial
        | some g =>
          obtain ⟨tk, sz⟩ := g
          have h10 : Nat.blt tk nt = true := h10
          rw [blt_iff] at h10
          exact ⟨h10, g5.2⟩
    | srow x ls n =>
      obtain ⟨x', ls', n', rfl, h2⟩ := onRow_some (show onRow b' (fun a' ls' n' => selB (andB (Nat.beq x a') (andB (eqLfs ls ls') (andB (eqE n n') (oldV base s.length nb nt (.int .i64 n))))) (some []) none) none = some t from h)
      obtain ⟨h3, h4⟩ := selB_some h2
      obtain ⟨h5, h6⟩ := andB_ok h3
      obtain ⟨h7, h8⟩ := andB_ok h6
      obtain ⟨h9, h10⟩ := andB_ok h8
      rw [beq_iff] at h5
      have e1 := eqLfs_ok h7
      have e2 := eqE_ok h9
      subst h5; subst e1; subst e2
      simp at h4; subst h4
      have e3 : n.den (c.anew base s nb nt).ρ = n.den c.ρ := E.old_den (show n.old base s.length = true from h10)
      have hlv : (Blk.srow x ls n).live (c.anew base s nb nt) → (Blk.srow x ls n).live c := fun hl => by
        have hl : 0 < n.den (c.anew base s nb nt).ρ := hl
        rw [e3] at hl; exact hl
      refine ⟨rfl, _, _, rfl, rfl, rfl, rfl, hlv, fun loc hR hn => ?_⟩
      obtain ⟨cs, ty, fr, g1, g2⟩ := hR (hlv hn)
      refine ⟨cs, ty, fr, g1, fun q r l hq hl => ?_⟩
      rw [e3] at hq
      have e4 : (c.anew base s nb nt).ρ (rowVar x r q) = c.ρ (rowVar x r q) := sub_row hrow
      rw [e4]
      exact g2 q r l hq hl

/-- the blocks -/
theorem fitBlk_ok (hrow : Nat.ble (Nat.add base s.length) 1000 = true) {m m' : Mem} (hnb : m.nb = nb) (hnt : m.nt = nt) : ∀ {bs : List (Nat × List Bool)} {t : List G} {i : Nat}, fitBlk (oldV base s.length nb nt) bs m m' = some t → (∀ j, j < t.length → s[i + j]? = t[j]?) →
    ∀ (j : Nat) (b : Blk), (genTr bs m (base + i)).get j = some b → j < nb ∧ ∃ b', m'.tr.get j = some b' ∧ b'.wrB = b.wrB ∧ b'.plB = b.plB ∧ (b.live (c.anew base s nb nt) → b'.live c) ∧ ∀ loc, BlkR c w loc b' → BlkR (c.anew base s nb nt) w loc b
  | [], t, i, _, _, j, b, hb => by simp [genTr, Tr.get] at hb
  | x :: bs, t, i, h, hs, j, b, hb => by
    obtain ⟨h7, h4⟩ := selB_some (show selB (Nat.blt x.1 m.nb) (catO (fit1 (oldV base s.length nb nt) m.nt x.2 (m.tr.get x.1) (m'.tr.get x.1)) (fitBlk (oldV base s.length nb nt) bs m m')) none = some t from h)
    obtain ⟨t1, t2, k1, k2, rfl⟩ := catO_ok h4
    rw [blt_iff] at h7
    rw [hnt] at k1
    obtain ⟨g0, k, k', g1, g2, g3, g4, g6, g5⟩ := fit1_ok (c := c) (w := w) (i := i) hrow k1 fun j hj => by
      rw [hs j (by simp; omega), List.getElem?_append_left hj]
    have hb : (Option.rec (genTr bs m (base + i + cntB m x)) (fun k => (genTr bs m (base + i + cntB m x)).set x.1 k) (gen1 (m.tr.get x.1) x.2 (base + i)) : Tr Blk).get j = some b := hb
    rw [g1] at hb
    have hb : ((genTr bs m (base + i + cntB m x)).set x.1 k).get j = some b := hb
    rw [Tr.get_set] at hb
    split at hb
    · rename_i ej
      simp at hb; subst hb; subst ej
      exact ⟨by omega, k', g2, g3, g4, g6, g5⟩
    · refine fitBlk_ok hrow hnb hnt (i := i + t1.length) k2 (fun j hj => ?_) j b ?_
      · rw [show i + t1.length + j = i + (t1.length + j) by omega, hs _ (by simp; omega), List.getElem?_append_right (by omega)]
        congr 1; omega
      · rw [g0, ← Nat.add_assoc]; exact hb

theorem fitS_ok {env env' : Env} {a : Act} (hv : ∀ j, VR c (env' j) (a.tmps.getD j undef)) : ∀ {l : List Nat} {t : List G} {i : Nat}, fitS l env env' = some t → (∀ j, j < t.length → s[i + j]? = t[j]?) →
    t.length = l.length ∧ ∀ j, VR (c.anew base s nb nt) (genS l env (base + i) j) (a.tmps.getD j undef)
  | [], t, i, h, _ => by
    have h : some [] = some t := h
    simp at h; subst h
    exact ⟨rfl, fun j => VR.bad⟩
  | x :: l, t, i, h, hs => by
    obtain ⟨g, t', h1, h2, rfl⟩ := consO_ok (show consO (gOf (env x) (env' x)) (fitS l env env') = some t from h)
    have h0 : s[i]? = some g := by have := hs 0 (by simp); simpa using this
    obtain ⟨g1, g2⟩ := fitS_ok hv (i := i + 1) h2 fun j hj => by
      have := hs (j + 1) (by simpa using hj)
      rw [show i + 1 + j = i + (j + 1) by omega]; simpa using this
    refine ⟨by simp [g1], fun j => ?_⟩
    show VR _ (Bool.rec (genS l env (base + (i + 1)) j) (genV (env x) (base + i)) (Nat.beq j x) : V) _
    cases hj : Nat.beq j x with
    | true => rw [beq_iff] at hj; subst hj; exact gOf_ok h1 (hv j) h0
    | false => exact g2 j

/-- what fits the pattern -/
theorem fitSt_ok {pt : Pt} {env : Env} {m : Mem} {env' : Env} {m' : Mem} {n : Nat} {a : Act} (h : fitSt pt env m env' m' = some s) (hm : MemR c m' w) (he : EnvR c n env' a) :
    s.length = pt.k m ∧ MemR (c.anew pt.base s m.nb m.nt) (genMem pt m) w ∧ EnvR (c.anew pt.base s m.nb m.nt) n (genEnv pt env) a ∧ ∀ b, Wr (c.anew pt.base s m.nb m.nt) (genMem pt m) b → Wr c m' b := by
  obtain ⟨h1, h2⟩ := selB_some h
  obtain ⟨h3', h4⟩ := andB_ok h1
  obtain ⟨h3, hrow⟩ := andB_ok h3'
  rw [ble_iff] at h3
  cases hc : catO (fitS pt.gsl env env') (fitBlk (oldV pt.base (pt.k m) m.nb m.nt) pt.blks m m') with
  | none => rw [hc] at h2; exact absurd (show none = some s from h2) (by simp)
  | some r =>
    rw [hc] at h2
    obtain ⟨h5, h6⟩ := selB_some (show selB (Nat.beq (lenL r) (pt.k m)) (some r) none = some s from h2)
    simp at h6; subst h6
    rw [beq_iff, lenL_eq] at h5
    obtain ⟨t1, t2, k1, k2, rfl⟩ := catO_ok hc
    rw [← h5] at k2 h4 hrow
    obtain ⟨f1, f2⟩ := fitS_ok (c := c) (base := pt.base) (nb := m.nb) (nt := m.nt) (s := t1 ++ t2) (i := 0) he.slot k1 fun j hj => by
      rw [Nat.zero_add, List.getElem?_append_left hj]
    have hb := fun j b => fitBlk_ok (c := c) (w := w) (base := pt.base) (s := t1 ++ t2) (nb := m.nb) (nt := m.nt) (m := m) (m' := m') hrow rfl rfl (i := t1.length) k2 (fun j hj => by
      rw [List.getElem?_append_right (by omega)]; congr 1; omega) j b
    have hb : ∀ (j : Nat) (b : Blk), (genMem pt m).tr.get j = some b → j < m.nb ∧ ∃ b', m'.tr.get j = some b' ∧ b'.wrB = b.wrB ∧ b'.plB = b.plB ∧ (b.live (c.anew pt.base (t1 ++ t2) m.nb m.nt) → b'.live c) ∧ ∀ loc, BlkR c w loc b' → BlkR (c.anew pt.base (t1 ++ t2) m.nb m.nt) w loc b := by
      intro j b h
      refine hb j b ?_
      have h : (genTr pt.blks m (pt.base + lenL pt.gsl)).get j = some b := h
      rw [lenL_eq, ← f1] at h
      exact h
    refine ⟨h5, ⟨rfl, rfl, ?_, ?_, ?_⟩, ⟨he.size, ?_, ?_⟩, ?_⟩
    · intro i b hi
      obtain ⟨g1, b', g2, _, _, _, g5⟩ := hb i b hi
      exact ⟨g1, g5 _ (hm.blk i b' g2).2⟩
    · intro i j b b' hi hj hij hap l1 l2
      obtain ⟨_, d, g2, g3, g4, g6, _⟩ := hb i b hi
      obtain ⟨_, d', g2', g3', g4', g6', _⟩ := hb j b' hj
      refine hm.inj i j d d' g2 g2' hij ?_ (g6 l1) (g6' l2)
      unfold Blk.apt at *
      rw [g3, g4, g3', g4']; exact hap
    · intro t n ht
      simp [genMem, Tr.get] at ht
    · intro j
      show VR _ (selB (memN pt.keep j) (env j) (genS pt.gsl env pt.base j)) _
      cases hk : memN pt.keep j with
      | true =>
        obtain ⟨g1, g2⟩ := andB_ok (allL_ok h4 j (memN_iff.1 hk))
        have := eqVV_ok _ _ g1
        show VR _ (env j) _
        have hv := he.slot j
        rw [← this] at hv
        exact oldV_R g2 hv
      | false => exact f2 j
    · exact ⟨h3, fun i hi => he.glob.2 i hi⟩
    · rintro b ⟨i, blk, h7, h8, h9⟩
      obtain ⟨_, d, g2, g3, _, _, _⟩ := hb i blk h7
      exact ⟨i, d, g2, by rw [g3]; exact h8, h9⟩
end fit

end Go.Sy
