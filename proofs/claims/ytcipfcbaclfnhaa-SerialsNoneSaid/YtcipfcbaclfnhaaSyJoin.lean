/-
  What is proved here: a call that leaves the memory as it was, and gives the same on all ways, is one way.
  Conditions: none.
-/
import Derived.Test.YtcipfcbaclfnhaaSyPat2
namespace Go.Sy
open Go.RowKit (Below)

/-! ### blocks that are one -/

noncomputable def eqEnts (a : List (V × V × Nat)) : List (V × V × Nat) → Bool := (List.rec (motive := fun _ => List (V × V × Nat) → Bool) (fun b => (List.rec (motive := fun _ => Bool) (true) (fun _ _ _ => false) (b))) (fun x _ ih => fun b => (List.rec (motive := fun _ => Bool) (false) (fun y r _ => andB (andB (eqVV x.1 y.1) (andB (eqVV x.2.1 y.2.1) (Nat.beq x.2.2 y.2.2))) (ih r)) (b))) (a))

noncomputable def eqKvs (a : List (V × V)) : List (V × V) → Bool := (List.rec (motive := fun _ => List (V × V) → Bool) (fun b => (List.rec (motive := fun _ => Bool) (true) (fun _ _ _ => false) (b))) (fun x _ ih => fun b => (List.rec (motive := fun _ => Bool) (false) (fun y r _ => andB (andB (eqVV x.1 y.1) (eqVV x.2 y.2)) (ih r)) (b))) (a))

noncomputable def eqBlk (a b : Blk) : Bool := (Blk.rec (motive := fun _ => Bool) (fun l wr pl g => (Blk.rec (motive := fun _ => Bool) (fun l' wr' pl' g' => andB (andB (eqB wr wr') (eqB pl pl')) (andB (eqG g g') (eqLV l l'))) (fun _ _ _ => false) (fun _ _ => false) (fun _ _ _ => false) (fun _ _ => false) (b))) (fun es k wr => (Blk.rec (motive := fun _ => Bool) (fun _ _ _ _ => false) (fun es' k' wr' => andB (andB (Nat.beq k k') (eqB wr wr')) (eqEnts es es')) (fun _ _ => false) (fun _ _ _ => false) (fun _ _ => false) (b))) (fun l p => (Blk.rec (motive := fun _ => Bool) (fun _ _ _ _ => false) (fun _ _ _ => false) (fun l' p' => andB (Nat.beq p p') (eqEs l l')) (fun _ _ _ => false) (fun _ _ => false) (b))) (fun a ls n => (Blk.rec (motive := fun _ => Bool) (fun _ _ _ _ => false) (fun _ _ _ => false) (fun _ _ => false) (fun a' ls' n' => andB (Nat.beq a a') (andB (eqLfs ls ls') (eqE n n'))) (fun _ _ => false) (b))) (fun es wr => (Blk.rec (motive := fun _ => Bool) (fun _ _ _ _ => false) (fun _ _ _ => false) (fun _ _ => false) (fun _ _ _ => false) (fun es' wr' => andB (eqB wr wr') (eqKvs es es')) (b))) (a))

noncomputable def eqOB (a b : Option Blk) : Bool := (Option.rec (motive := fun _ => Bool) (true) (fun x => (Option.rec (motive := fun _ => Bool) (false) (fun y => eqBlk x y) (b))) (a))

/-- what is in the first is in the second -/
noncomputable def subTr (t : Tr Blk) : Tr Blk → Bool :=
  Tr.rec (motive := fun _ => Tr Blk → Bool) (fun _ => true) (fun v _ _ _ _ i0 i1 i2 i3 u => Tr.rec (motive := fun _ => Bool) false (fun w u0 u1 u2 u3 _ _ _ _ => andB (eqOB v w) (andB (andB (i0 u0) (i1 u1)) (andB (i2 u2) (i3 u3)))) u) t

theorem eqEnts_ok : ∀ {a b : List (V × V × Nat)}, eqEnts a b = true → a = b
  | [], [], _ => rfl
  | [], _ :: _, h => (Bool.false_ne_true h).elim
  | _ :: _, [], h => (Bool.false_ne_true h).elim
  | (x1, x2, x3) :: a, (y1, y2, y3) :: b, h => by
    obtain ⟨h1, h2⟩ := andB_ok (show andB (andB (eqVV x1 y1) (andB (eqVV x2 y2) (Nat.beq x3 y3))) (eqEnts a b) = true from h)
    obtain ⟨h3, h4⟩ := andB_ok h1
    obtain ⟨h5, h6⟩ := andB_ok h4
    rw [eqVV_ok _ _ h3, eqVV_ok _ _ h5, (beq_iff _ _).1 h6, eqEnts_ok h2]

theorem eqKvs_ok : ∀ {a b : List (V × V)}, eqKvs a b = true → a = b
  | [], [], _ => rfl
  | [], _ :: _, h => (Bool.false_ne_true h).elim
  | _ :: _, [], h => (Bool.false_ne_true h).elim
  | (x1, x2) :: a, (y1, y2) :: b, h => by
    obtain ⟨h1, h2⟩ := andB_ok (show andB (andB (eqVV x1 y1) (eqVV x2 y2)) (eqKvs a b) = true from h)
    obtain ⟨h3, h4⟩ := andB_ok h1
    rw [eqVV_ok _ _ h3, eqVV_ok _ _ h4, eqKvs_ok h2]

theorem eqBlk_ok {a b : Blk} (h : eqBlk a b = true) : a = b := by
  cases a <;> cases b <;> try exact (Bool.false_ne_true h).elim
  case cells.cells l wr pl g l' wr' pl' g' =>
    obtain ⟨h1, h2⟩ := andB_ok (show andB (andB (eqB wr wr') (eqB pl pl')) (andB (eqG g g') (eqLV l l')) = true from h)
    obtain ⟨h3, h4⟩ := andB_ok h1
    obtain ⟨h5, h6⟩ := andB_ok h2
    have := eqVV_ok _ _ (show eqVV (.agg l) (.agg l') = true from h6)
    simp at this
    rw [eqB_iff' h3, eqB_iff' h4, eqG_ok h5, this]
  case map.map es k wr es' k' wr' =>
    obtain ⟨h1, h2⟩ := andB_ok (show andB (andB (Nat.beq k k') (eqB wr wr')) (eqEnts es es') = true from h)
    obtain ⟨h3, h4⟩ := andB_ok h1
    rw [(beq_iff _ _).1 h3, eqB_iff' h4, eqEnts_ok h2]
  case pm.pm es wr es' wr' =>
    obtain ⟨h1, h2⟩ := andB_ok (show andB (eqB wr wr') (eqKvs es es') = true from h)
    rw [eqB_iff' h1, eqKvs_ok h2]
  case siter.siter l p l' p' =>
    obtain ⟨h1, h2⟩ := andB_ok (show andB (Nat.beq p p') (eqEs l l') = true from h)
    rw [(beq_iff _ _).1 h1, eqEs_ok h2]
  case srow.srow x ls n x' ls' n' =>
    obtain ⟨h1, h2⟩ := andB_ok (show andB (Nat.beq x x') (andB (eqLfs ls ls') (eqE n n')) = true from h)
    obtain ⟨h3, h4⟩ := andB_ok h2
    rw [(beq_iff _ _).1 h1, eqLfs_ok h3, eqE_ok h4]

theorem subTr_get : ∀ {t u : Tr Blk} {i : Nat} {b : Blk}, subTr t u = true → t.get i = some b → u.get i = some b
  | .nil, u, i, b, _, h => by simp [Tr.get] at h
  | .node v t0 t1 t2 t3, .nil, i, b, hs, _ => (Bool.false_ne_true hs).elim
  | .node v t0 t1 t2 t3, .node w u0 u1 u2 u3, i, b, hs, h => by
    obtain ⟨h1, h2⟩ := andB_ok (show andB (eqOB v w) (andB (andB (subTr t0 u0) (subTr t1 u1)) (andB (subTr t2 u2) (subTr t3 u3))) = true from hs)
    obtain ⟨h3, h4⟩ := andB_ok h2
    obtain ⟨h5, h6⟩ := andB_ok h3
    obtain ⟨h7, h8⟩ := andB_ok h4
    cases i with
    | zero =>
      have h : v = some b := h
      subst h
      cases w with
      | none => exact (Bool.false_ne_true (show eqOB (some b) none = true from h1)).elim
      | some y =>
        have := eqBlk_ok (show eqBlk b y = true from h1)
        subst this; rfl
    | succ k =>
      have h : (Bool.rec (Bool.rec (t3.get (Nat.div k 4)) (t2.get (Nat.div k 4)) (Nat.beq (Nat.mod k 4) 2)) (Bool.rec (t1.get (Nat.div k 4)) (t0.get (Nat.div k 4)) (Nat.beq (Nat.mod k 4) 0)) (Nat.blt (Nat.mod k 4) 2) : Option Blk) = some b := h
      show (Bool.rec (Bool.rec (u3.get (Nat.div k 4)) (u2.get (Nat.div k 4)) (Nat.beq (Nat.mod k 4) 2)) (Bool.rec (u1.get (Nat.div k 4)) (u0.get (Nat.div k 4)) (Nat.beq (Nat.mod k 4) 0)) (Nat.blt (Nat.mod k 4) 2) : Option Blk) = some b
      cases c1 : Nat.blt (Nat.mod k 4) 2 with
      | false =>
        rw [c1] at h
        cases c2 : Nat.beq (Nat.mod k 4) 2 with
        | false => rw [c2] at h; exact subTr_get h8 h
        | true => rw [c2] at h; exact subTr_get h7 h
      | true =>
        rw [c1] at h
        cases c2 : Nat.beq (Nat.mod k 4) 0 with
        | false => rw [c2] at h; exact subTr_get h6 h
        | true => rw [c2] at h; exact subTr_get h5 h

/-! ### back to the names that were -/

section back
variable {c c1 : Cx}

theorem Cp.R.back (h : c.le c1) {p : Cp} {k k' : Nat} (hp : p.R c k) (hq : p.R c1 k') : p.R c k' := by
  cases p with
  | n => exact hq
  | t i j => exact ⟨hp.1, by rw [← h.γ i hp.1]; exact hq.2⟩

mutual
theorem VR.back (h : c.le c1) : ∀ {v : V} {x y : Value}, VR c v x → VR c1 v y → VR c v y
  | .bool b, x, y, _, hy => by unfold VR at *; rw [← h.ρ]; exact hy
  | .int k e, x, y, _, hy => by unfold VR at *; rw [← h.ρ]; exact hy
  | .str l, x, y, _, hy => by unfold VR BR at *; rw [← h.ρ]; exact hy
  | .nilPtr, x, y, _, hy => by unfold VR at *; exact hy
  | .ptr i o, x, y, hx, hy => by
    unfold VR Cx.ad at *
    exact ⟨hx.1, by rw [← h.β i hx.1]; exact hy.2⟩
  | .nilSlice, x, y, _, hy => by unfold VR at *; exact hy
  | .slice i o len cp, x, y, hx, hy => by
    unfold VR Cx.ad at *
    obtain ⟨h1, cap, h2, _⟩ := hx
    obtain ⟨_, cap', h3, h4, h5⟩ := hy
    exact ⟨h1, cap', h2.back h h3, h4, by rw [← h.β i h1]; exact h5⟩
  | .nilMap, x, y, _, hy => by unfold VR at *; exact hy
  | .map i, x, y, hx, hy => by unfold VR at *; exact ⟨hx.1, by rw [← h.β i hx.1]; exact hy.2⟩
  | .func fn a b, x, y, hx, hy => by
    unfold VR at *
    obtain ⟨as, bs, e, h1, h2⟩ := hx
    obtain ⟨as', bs', e', h3, h4⟩ := hy
    exact ⟨as', bs', e', VRs.back h h1 h3, VRs.back h h2 h4⟩
  | .nilFunc, x, y, _, hy => by unfold VR at *; exact hy
  | .iface t v, x, y, hx, hy => by
    unfold VR at *
    obtain ⟨u, _, h1⟩ := hx
    obtain ⟨z, e, h2⟩ := hy
    exact ⟨z, e, VR.back h h1 h2⟩
  | .nilIface, x, y, _, hy => by unfold VR at *; exact hy
  | .agg l, x, y, hx, hy => by
    unfold VR at *
    obtain ⟨u, _, h1⟩ := hx
    obtain ⟨z, e, h2⟩ := hy
    exact ⟨z, e, VRs.back h h1 h2⟩
  | .tuple l, x, y, hx, hy => by
    unfold VR at *
    obtain ⟨u, _, h1⟩ := hx
    obtain ⟨z, e, h2⟩ := hy
    exact ⟨z, e, VRs.back h h1 h2⟩
  | .bad, x, y, _, _ => by unfold VR; trivial
  | .eslice i z, x, y, hx, hy => by
    unfold VR Cx.ad at *
    obtain ⟨_, o, cap, h1, h2⟩ := hy
    exact ⟨hx.1, o, cap, by rw [← h.β i hx.1]; exact h1, h2⟩
  | .sarr i sz n, x, y, hx, hy => by
    unfold VR Cx.ad at *
    obtain ⟨_, k, cap, h1, h2⟩ := hy
    exact ⟨hx.1, k, cap, by rw [← h.ρ]; exact h1, by rw [← h.β i hx.1]; exact h2⟩
  | .sptr i sz e f, x, y, hx, hy => by
    unfold VR Cx.ad at *
    obtain ⟨_, j, h1, h2⟩ := hy
    exact ⟨hx.1, j, by rw [← h.ρ]; exact h1, by rw [← h.β i hx.1]; exact h2⟩
theorem VRs.back (h : c.le c1) : ∀ {l : List V} {xs ys : List Value}, VRs c l xs → VRs c1 l ys → VRs c l ys
  | [], xs, ys, _, hy => by unfold VRs at *; exact hy
  | v :: l, xs, ys, hx, hy => by
    unfold VRs at *
    obtain ⟨x, r, _, h1, h2⟩ := hx
    obtain ⟨y, s, e, h3, h4⟩ := hy
    exact ⟨y, s, e, VR.back h h1 h3, VRs.back h h2 h4⟩
end

theorem KvR.back (h : c.le c1) : ∀ {es : List (V × V)} {l l1 : List MapEntry}, KvR c es l → KvR c1 es l1 → KvR c es l1
  | [], [], [], _, _ => trivial
  | _ :: _, _ :: _, _ :: _, ⟨h1, h2, h3⟩, ⟨k1, k2, k3⟩ => ⟨VR.back h h1 k1, VR.back h h2 k2, KvR.back h h3 k3⟩
  | [], _ :: _, _, h, _ => h.elim
  | [], [], _ :: _, _, h => h.elim
  | _ :: _, [], _, h, _ => h.elim
  | _ :: _, _ :: _, [], _, h => h.elim

theorem BlkR.back (h : c.le c1) {w w1 : World} {loc : Nat × Nat} {b : Blk} (hb : BlkR c w loc b) (hb1 : BlkR c1 w1 loc b) : BlkR c w1 loc b := by
  cases b with
  | cells l wr pl g =>
    obtain ⟨cs, t, fr, h1, h2, h3, h4, h5⟩ := hb
    obtain ⟨cs', t', fr', k1, k2, k3, k4, k5⟩ := hb1
    refine ⟨cs', t', fr', k1, fun j v hj => ?_, k3, k4, ?_⟩
    · obtain ⟨x, _, hx⟩ := h2 j v hj
      obtain ⟨y, hy, hv⟩ := k2 j v hj
      exact ⟨y, hy, VR.back h hx hv⟩
    · cases g with
      | none => trivial
      | some g => obtain ⟨tk, sz⟩ := g; exact ⟨h5.1, by show loc.2 + c.γ tk * sz ≤ cs'.size; rw [← h.γ tk h5.1]; exact k5.2⟩
  | map es clock wr =>
    obtain ⟨es', h1, h2⟩ := hb
    obtain ⟨es1, k1, k2⟩ := hb1
    exact ⟨es1, k1, k2.1, fun n e hn => by
      obtain ⟨x, _, hk, hv, _⟩ := h2.2 n e hn
      obtain ⟨y, hy, gk, gv, gb⟩ := k2.2 n e hn
      exact ⟨y, hy, VR.back h hk gk, VR.back h hv gv, gb⟩⟩
  | pm es wr =>
    obtain ⟨es', k, h1, l', h2, h3⟩ := hb
    obtain ⟨es1, k1, g1, l1, g2, g3⟩ := hb1
    exact ⟨es1, k1, g1, l1, g2, h3.back h g3⟩
  | siter l pos =>
    obtain ⟨s, k1, k2⟩ := hb1
    exact ⟨s, k1, by unfold BR at *; rw [← h.ρ]; exact k2⟩
  | srow a ls n =>
    intro hn
    obtain ⟨cs, t, fr, k1, k2⟩ := hb1 (by rw [h.ρ]; exact hn)
    exact ⟨cs, t, fr, k1, fun q r l hq hl => by rw [← h.ρ] at hq ⊢; exact k2 q r l hq hl⟩

theorem Step.back {m m1 : Mem} {w w1 : World} (hm : MemR c m w) (s : Step c m w c1 m1 w1) (hs : subTr m.tr m1.tr = true) : Step c m w c m w1 :=
  ⟨⟨hm.nb, hm.nt, fun i b hb => by
      obtain ⟨h1, h2⟩ := hm.blk i b hb
      have h3 := (s.rel.blk i b (subTr_get hs hb)).2
      rw [s.le.β i h1] at h3
      exact ⟨h1, h2.back s.le h3⟩, hm.inj, hm.tok⟩, Cx.le.refl c, s.os, s.tape, s.output, s.size, s.frame, fun _ h => .inl h⟩
end back

/-- a value without places: it means the same for all names -/
noncomputable def flatV (v : V) : Bool := V.rec (motive_1 := fun _ => Bool) (motive_2 := fun _ => Bool)
  (fun _ => true) (fun _ _ => true) (fun _ => true) true (fun _ _ => false) true (fun _ _ _ _ => false) true (fun _ => false)
  (fun _ _ _ ia ib => andB ia ib) true (fun _ _ ih => ih) true (fun _ ih => ih) (fun _ ih => ih) true (fun _ _ _ => false) (fun _ _ _ _ => false) (fun _ _ => false) true (fun _ _ ih il => andB ih il) v

mutual
theorem flatV_R {c c1 : Cx} (h : c1.ρ = c.ρ) : ∀ {v : V} {x : Value}, flatV v = true → VR c1 v x → VR c v x
  | .bool b, x, _, hy => by unfold VR at *; rw [← h]; exact hy
  | .int k e, x, _, hy => by unfold VR at *; rw [← h]; exact hy
  | .str l, x, _, hy => by unfold VR BR at *; rw [← h]; exact hy
  | .nilPtr, x, _, hy => by unfold VR at *; exact hy
  | .ptr i o, x, hf, _ => (Bool.false_ne_true hf).elim
  | .nilSlice, x, _, hy => by unfold VR at *; exact hy
  | .slice i o len cp, x, hf, _ => (Bool.false_ne_true hf).elim
  | .nilMap, x, _, hy => by unfold VR at *; exact hy
  | .map i, x, hf, _ => (Bool.false_ne_true hf).elim
  | .func fn a b, x, hf, hy => by
    obtain ⟨f1, f2⟩ := andB_ok (show andB (flatV (.agg a)) (flatV (.agg b)) = true from hf)
    rw [VR.func] at *
    obtain ⟨as', bs', e', h3, h4⟩ := hy
    exact ⟨as', bs', e', flatVs_R h f1 h3, flatVs_R h f2 h4⟩
  | .nilFunc, x, _, hy => by unfold VR at *; exact hy
  | .iface t v, x, hf, hy => by
    rw [VR.iface] at *
    obtain ⟨z, e, h2⟩ := hy
    exact ⟨z, e, flatV_R h (show flatV v = true from hf) h2⟩
  | .nilIface, x, _, hy => by unfold VR at *; exact hy
  | .agg l, x, hf, hy => by
    rw [VR.agg] at *
    obtain ⟨z, e, h2⟩ := hy
    exact ⟨z, e, flatVs_R h hf h2⟩
  | .tuple l, x, hf, hy => by
    rw [VR.tuple] at *
    obtain ⟨z, e, h2⟩ := hy
    exact ⟨z, e, flatVs_R h (show flatV (.agg l) = true from hf) h2⟩
  | .bad, x, _, _ => by unfold VR; trivial
  | .sarr _ _ _, x, hf, _ => (Bool.false_ne_true hf).elim
  | .eslice _ _, x, hf, _ => (Bool.false_ne_true hf).elim
  | .sptr _ _ _ _, x, hf, _ => (Bool.false_ne_true hf).elim
theorem flatVs_R {c c1 : Cx} (h : c1.ρ = c.ρ) : ∀ {l : List V} {xs : List Value}, flatV (.agg l) = true → VRs c1 l xs → VRs c l xs
  | [], xs, _, hy => by rw [VRs.nil_iff] at *; exact hy
  | v :: l, xs, hf, hy => by
    obtain ⟨f1, f2⟩ := andB_ok (show andB (flatV v) (flatV (.agg l)) = true from hf)
    obtain ⟨x, r, rfl, h1, h2⟩ := VRs.cons_iff.1 hy
    exact VRs.cons (flatV_R h f1 h1) (flatVs_R h f2 h2)
end

/-! ### the join -/

/-- a leaf that leaves the memory as it was -/
noncomputable def quiet (m : Mem) (r : Rs V) : Bool := andB (flatV r.v) (subTr m.tr r.m.tr)

/-- all leaves are quiet, and give 'v' -/
noncomputable def allQ (m : Mem) (v : V) (t : T (Rs V)) : Bool := (T.rec (motive := fun _ => Bool) (fun r => andB (eqVV v r.v) (quiet m r)) (fun _ _ _ ix iy => andB ix iy) (fun _ => false) (t))

noncomputable def firstV (t : T (Rs V)) : Option V := (T.rec (motive := fun _ => Option V) (fun r => some r.v) (fun _ _ _ ix _ => ix) (fun _ => none) (t))

/-- a quiet leaf: the memory as it was -/
noncomputable def dropT (m : Mem) (t : T (Rs V)) : T (Rs V) := (T.rec (motive := fun _ => T (Rs V)) (fun r => selB (quiet m r) (.ret ⟨r.v, m, r.p⟩) (.ret r)) (fun c _ _ ix iy => .br c ix iy) (fun s => .fail s) (t))

noncomputable def joinT (m : Mem) (p : Pc) (t : T (Rs V)) : T (Rs V) := (Option.rec (motive := fun _ => T (Rs V)) (t) (fun v => selB (allQ m v t) (.ret ⟨v, m, p⟩) (dropT m t)) (firstV t))

noncomputable def joinM (ev : List V → M V) (l : List V) : M V := fun m p => joinT m p (ev l m p)

noncomputable def kwJoin (fs : List Nat) (r : Kw) : Kw := fun i => selB (memN fs i) (some joinM) (r i)

theorem allQ_out {ρ : Nat → Int} {m : Mem} {v : V} : ∀ {t : T (Rs V)}, allQ m v t = true → ∃ m1 q, t.out ρ = some ⟨v, m1, q⟩ ∧ quiet m ⟨v, m1, q⟩ = true
  | .ret ⟨u, m1, q⟩, h => by
    obtain ⟨h1, h2⟩ := andB_ok (show andB (eqVV v u) (quiet m ⟨u, m1, q⟩) = true from h)
    have := eqVV_ok _ _ h1
    subst this
    exact ⟨m1, q, rfl, h2⟩
  | .br c x y, h => by
    obtain ⟨h1, h2⟩ := andB_ok (show andB (allQ m v x) (allQ m v y) = true from h)
    simp only [T.out]
    cases c.den ρ with
    | true => obtain ⟨m1, q, e1, e2⟩ := allQ_out (ρ := ρ) h1; exact ⟨m1, q, by simpa using e1, e2⟩
    | false => obtain ⟨m1, q, e1, e2⟩ := allQ_out (ρ := ρ) h2; exact ⟨m1, q, by simpa using e1, e2⟩
  | .fail _, h => (Bool.false_ne_true h).elim

theorem dropT_out {ρ : Nat → Int} {m : Mem} {r : Rs V} : ∀ {t : T (Rs V)}, (dropT m t).out ρ = some r → t.out ρ = some r ∨ ∃ m1, t.out ρ = some ⟨r.v, m1, r.p⟩ ∧ r.m = m ∧ quiet m ⟨r.v, m1, r.p⟩ = true
  | .ret ⟨u, m1, q⟩, h => by
    have h : (selB (quiet m ⟨u, m1, q⟩) (T.ret (⟨u, m, q⟩ : Rs V)) (.ret ⟨u, m1, q⟩)).out ρ = some r := h
    cases hq : quiet m ⟨u, m1, q⟩ with
    | false => rw [hq] at h; exact .inl h
    | true =>
      rw [hq] at h
      simp [selB, T.out] at h
      subst h
      exact .inr ⟨m1, rfl, rfl, hq⟩
  | .br c x y, h => by
    have h : (T.br c (dropT m x) (dropT m y)).out ρ = some r := h
    simp only [T.out] at h ⊢
    cases hc : c.den ρ with
    | true => rw [hc] at h; exact dropT_out (t := x) (by simpa using h)
    | false => rw [hc] at h; exact dropT_out (t := y) (by simpa using h)
  | .fail _, h => .inl h

theorem joinM_ok {P : Program} {ρ : Nat → Int} {f : FuncId} {ev : List V → M V} (hev : FnOK P ρ f ev) : FnOK P ρ f (joinM ev) := by
  intro l c m m' w p q v args hρ hm hp hg hl h
  have back : ∀ (m1 : Mem) (q1 : Pc), (ev l m p).out c.ρ = some ⟨v, m1, q1⟩ → quiet m ⟨v, m1, q1⟩ = true → ∀ q', (PcR c.ρ q1 → PcR c.ρ q') → CallOK P f args c m w m v q' := by
    intro m1 q1 ho hq q' hpq
    obtain ⟨h1, h2⟩ := andB_ok hq
    obtain ⟨k1, k2⟩ := hev l c m m1 w p q1 v args hρ hm hp hg hl ho
    refine ⟨k1, k2.mono fun e w' hR => ?_⟩
    obtain ⟨c1, z, rfl, s, hz, hq1⟩ := hR
    exact ⟨c, z, rfl, s.back hm h2, flatV_R s.le.ρ h1 hz, hpq hq1⟩
  have h : (Option.rec (ev l m p) (fun v => selB (allQ m v (ev l m p)) (.ret ⟨v, m, p⟩) (dropT m (ev l m p))) (firstV (ev l m p)) : T (Rs V)).out c.ρ = some ⟨v, m', q⟩ := h
  cases hf : firstV (ev l m p) with
  | none => rw [hf] at h; exact hev l c m m' w p q v args hρ hm hp hg hl h
  | some u =>
    rw [hf] at h
    have h : (selB (allQ m u (ev l m p)) (T.ret (⟨u, m, p⟩ : Rs V)) (dropT m (ev l m p))).out c.ρ = some ⟨v, m', q⟩ := h
    cases ha : allQ m u (ev l m p) with
    | true =>
      rw [ha] at h
      simp [selB, T.out] at h
      obtain ⟨rfl, rfl, rfl⟩ := h
      obtain ⟨m1, q1, e1, e2⟩ := allQ_out (ρ := c.ρ) ha
      exact back m1 q1 e1 e2 p fun _ => hp
    | false =>
      rw [ha] at h
      rcases dropT_out (show (dropT m (ev l m p)).out c.ρ = some ⟨v, m', q⟩ from h) with h1 | ⟨m1, h1, h2, h3⟩
      · exact hev l c m m' w p q v args hρ hm hp hg hl h1
      · have h2 : m' = m := h2
        subst h2
        exact back m1 q h1 h3 q id

theorem kwJoin_ok {P : Program} {ρ : Nat → Int} {fs : List Nat} {r : Kw} (hr : KwOK P ρ r) : KwOK P ρ (kwJoin fs r) := by
  intro f tr h ev hev
  have h : selB (memN fs f) (some joinM) (r f) = some tr := h
  cases hm : memN fs f with
  | true =>
    rw [hm] at h
    have h : some joinM = some tr := h
    simp at h; subst h
    exact joinM_ok hev
  | false => rw [hm] at h; exact hr f tr h ev hev

end Go.Sy
