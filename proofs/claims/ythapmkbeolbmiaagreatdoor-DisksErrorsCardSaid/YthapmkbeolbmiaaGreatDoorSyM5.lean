/-
  What is defined and proved here: a part of the symbolic evaluator: SyJoin, SyCo, SyTab, SyLoop, SyPath, SyVc, SyNorm, SyArgs, SyArgs2, SySlim, SyInst, SyInst2, SyHeads, SyPathC, SyKnow, SyValue.
  Conditions: none.
-/
import Derived.Test.YthapmkbeolbmiaaGreatDoorSyM4
/-
  What is proved here: a call that leaves the memory as it was, and gives the same on all ways, is one way.
  Conditions: none.
-/
namespace Go.Sy
open Go.RowKit (Below)

/-! ### blocks that are one -/

noncomputable def eqEnts (a : List (V × V × Nat)) : List (V × V × Nat) → Bool := (List.rec (motive := fun _ => List (V × V × Nat) → Bool) (fun b => (List.rec (motive := fun _ => Bool) (true) (fun _ _ _ => false) (b))) (fun x _ ih => fun b => (List.rec (motive := fun _ => Bool) (false) (fun y r _ => andB (andB (eqVV x.1 y.1) (andB (eqVV x.2.1 y.2.1) (Nat.beq x.2.2 y.2.2))) (ih r)) (b))) (a))

noncomputable def eqKvs (a : List (V × V)) : List (V × V) → Bool := (List.rec (motive := fun _ => List (V × V) → Bool) (fun b => (List.rec (motive := fun _ => Bool) (true) (fun _ _ _ => false) (b))) (fun x _ ih => fun b => (List.rec (motive := fun _ => Bool) (false) (fun y r _ => andB (andB (eqVV x.1 y.1) (eqVV x.2 y.2)) (ih r)) (b))) (a))

noncomputable def eqBlk (a b : Blk) : Bool := (Blk.rec (motive := fun _ => Bool) (fun l wr pl g => (Blk.rec (motive := fun _ => Bool) (fun l' wr' pl' g' => andB (andB (eqB wr wr') (eqB pl pl')) (andB (eqG g g') (eqLV l l'))) (fun _ _ _ => false) (fun _ _ => false) (fun _ _ _ => false) (fun _ _ => false) (false) (fun _ _ _ _ _ _ _ => false) (b))) (fun es k wr => (Blk.rec (motive := fun _ => Bool) (fun _ _ _ _ => false) (fun es' k' wr' => andB (andB (Nat.beq k k') (eqB wr wr')) (eqEnts es es')) (fun _ _ => false) (fun _ _ _ => false) (fun _ _ => false) (false) (fun _ _ _ _ _ _ _ => false) (b))) (fun l p => (Blk.rec (motive := fun _ => Bool) (fun _ _ _ _ => false) (fun _ _ _ => false) (fun l' p' => andB (Nat.beq p p') (eqEs l l')) (fun _ _ _ => false) (fun _ _ => false) (false) (fun _ _ _ _ _ _ _ => false) (b))) (fun a ls n => (Blk.rec (motive := fun _ => Bool) (fun _ _ _ _ => false) (fun _ _ _ => false) (fun _ _ => false) (fun a' ls' n' => andB (Nat.beq a a') (andB (eqLfs ls ls') (eqE n n'))) (fun _ _ => false) (false) (fun _ _ _ _ _ _ _ => false) (b))) (fun es wr => (Blk.rec (motive := fun _ => Bool) (fun _ _ _ _ => false) (fun _ _ _ => false) (fun _ _ => false) (fun _ _ _ => false) (fun es' wr' => andB (eqB wr wr') (eqKvs es es')) (false) (fun _ _ _ _ _ _ _ => false) (b))) ((Blk.rec (motive := fun _ => Bool) (fun _ _ _ _ => false) (fun _ _ _ => false) (fun _ _ => false) (fun _ _ _ => false) (fun _ _ => false) (true) (fun _ _ _ _ _ _ _ => false) (b))) (fun _ _ _ _ _ _ _ => false) (a))

noncomputable def eqOB (a b : Option Blk) : Bool := (Option.rec (motive := fun _ => Bool) (true) (fun x => (Option.rec (motive := fun _ => Bool) (false) (fun y => eqBlk x y) (b))) (a))

/-- what is in the first is in the second -/
noncomputable def subTr (t : Tr Blk) : Tr Blk → Bool :=
  Tr.rec (motive := fun _ => Tr Blk → Bool) (fun _ => true) (fun v _ _ _ _ i0 i1 i2 i3 u => Tr.rec (motive := fun _ => Bool) false (fun w u0 u1 u2 u3 _ _ _ _ => andB (eqOB v w) (andB (andB (i0 u0) (i1 u1)) (andB (i2 u2) (i3 u3)))) u) t

theorem eqEnts_ok : ∀ {a b : List (V × V × Nat)}, eqEnts a b = true → a = b
  | [], [], _ => rfl
  | [], _ :: _, h => (Bool.false_ne_true h).elim
  | _ :: _, [], h => (Bool.false_ne_true h).elim
  | (x1, x2, x3) :: a, (y1, y2, y3) :: b, h => by
    obtain ⟨h1, h2⟩ := andB_ok (show andB (andB (eqVV x1 y1) (andB (eqVV x2 y2) (Nat.beq x3 y3))) (eqEnts a b) = true from h)
    obtain ⟨h3, h4⟩ := andB_ok h1
    obtain ⟨h5, h6⟩ := andB_ok h4
    rw [eqVV_ok _ _ h3, eqVV_ok _ _ h5, (beq_iff _ _).1 h6, eqEnts_ok h2]

theorem eqKvs_ok : ∀ {a b : List (V × V)}, eqKvs a b = true → a = b
  | [], [], _ => rfl
  | [], _ :: _, h => (Bool.false_ne_true h).elim
  | _ :: _, [], h => (Bool.false_ne_true h).elim
  | (x1, x2) :: a, (y1, y2) :: b, h => by
    obtain ⟨h1, h2⟩ := andB_ok (show andB (andB (eqVV x1 y1) (eqVV x2 y2)) (eqKvs a b) = true from h)
    obtain ⟨h3, h4⟩ := andB_ok h1
    rw [eqVV_ok _ _ h3, eqVV_ok _ _ h4, eqKvs_ok h2]

theorem eqBlk_ok {a b : Blk} (h : eqBlk a b = true) : a = b := by
  cases a <;> cases b <;> try exact (Bool.false_ne_true h).elim
  case cells.cells l wr pl g l' wr' pl' g' =>
    obtain ⟨h1, h2⟩ := andB_ok (show andB (andB (eqB wr wr') (eqB pl pl')) (andB (eqG g g') (eqLV l l')) = true from h)
    obtain ⟨h3, h4⟩ := andB_ok h1
    obtain ⟨h5, h6⟩ := andB_ok h2
    have := eqVV_ok _ _ (show eqVV (.agg l) (.agg l') = true from h6)
    simp at this
    rw [eqB_iff' h3, eqB_iff' h4, eqG_ok h5, this]
  case map.map es k wr es' k' wr' =>
    obtain ⟨h1, h2⟩ := andB_ok (show andB (andB (Nat.beq k k') (eqB wr wr')) (eqEnts es es') = true from h)
    obtain ⟨h3, h4⟩ := andB_ok h1
    rw [(beq_iff _ _).1 h3, eqB_iff' h4, eqEnts_ok h2]
  case rsv.rsv => rfl
  case pm.pm es wr es' wr' =>
    obtain ⟨h1, h2⟩ := andB_ok (show andB (eqB wr wr') (eqKvs es es') = true from h)
    rw [eqB_iff' h1, eqKvs_ok h2]
  case siter.siter l p l' p' =>
    obtain ⟨h1, h2⟩ := andB_ok (show andB (Nat.beq p p') (eqEs l l') = true from h)
    rw [(beq_iff _ _).1 h1, eqEs_ok h2]
  case srow.srow x ls n x' ls' n' =>
    obtain ⟨h1, h2⟩ := andB_ok (show andB (Nat.beq x x') (andB (eqLfs ls ls') (eqE n n')) = true from h)
    obtain ⟨h3, h4⟩ := andB_ok h2
    rw [(beq_iff _ _).1 h1, eqLfs_ok h3, eqE_ok h4]

theorem subTr_get : ∀ {t u : Tr Blk} {i : Nat} {b : Blk}, subTr t u = true → t.get i = some b → u.get i = some b
  | .nil, u, i, b, _, h => by simp [Tr.get] at h
  | .node v t0 t1 t2 t3, .nil, i, b, hs, _ => (Bool.false_ne_true hs).elim
  | .node v t0 t1 t2 t3, .node w u0 u1 u2 u3, i, b, hs, h => by
    obtain ⟨h1, h2⟩ := andB_ok (show andB (eqOB v w) (andB (andB (subTr t0 u0) (subTr t1 u1)) (andB (subTr t2 u2) (subTr t3 u3))) = true from hs)
    obtain ⟨h3, h4⟩ := andB_ok h2
    obtain ⟨h5, h6⟩ := andB_ok h3
    obtain ⟨h7, h8⟩ := andB_ok h4
    cases i with
    | zero =>
      have h : v = some b := h
      subst h
      cases w with
      | none => exact (Bool.false_ne_true (show eqOB (some b) none = true from h1)).elim
      | some y =>
        have := eqBlk_ok (show eqBlk b y = true from h1)
        subst this; rfl
    | succ k =>
      have h : (Bool.rec (Bool.rec (t3.get (Nat.div k 4)) (t2.get (Nat.div k 4)) (Nat.beq (Nat.mod k 4) 2)) (Bool.rec (t1.get (Nat.div k 4)) (t0.get (Nat.div k 4)) (Nat.beq (Nat.mod k 4) 0)) (Nat.blt (Nat.mod k 4) 2) : Option Blk) = some b := h
      show (Bool.rec (Bool.rec (u3.get (Nat.div k 4)) (u2.get (Nat.div k 4)) (Nat.beq (Nat.mod k 4) 2)) (Bool.rec (u1.get (Nat.div k 4)) (u0.get (Nat.div k 4)) (Nat.beq (Nat.mod k 4) 0)) (Nat.blt (Nat.mod k 4) 2) : Option Blk) = some b
      cases c1 : Nat.blt (Nat.mod k 4) 2 with
      | false =>
        rw [c1] at h
        cases c2 : Nat.beq (Nat.mod k 4) 2 with
        | false => rw [c2] at h; exact subTr_get h8 h
        | true => rw [c2] at h; exact subTr_get h7 h
      | true =>
        rw [c1] at h
        cases c2 : Nat.beq (Nat.mod k 4) 0 with
        | false => rw [c2] at h; exact subTr_get h6 h
        | true => rw [c2] at h; exact subTr_get h5 h

/-! ### back to the names that were -/

section back
variable {c c1 : Cx}

theorem Cp.R.back (h : c.le c1) {p : Cp} {k k' : Nat} (hp : p.R c k) (hq : p.R c1 k') : p.R c k' := by
  cases p with
  | n => exact hq
  | u => trivial
  | t i j => exact ⟨hp.1, by rw [← h.γ i hp.1]; exact hq.2⟩

mutual
theorem VR.back (h : c.le c1) : ∀ {v : V} {x y : Value}, VR c v x → VR c1 v y → VR c v y
  | .bool b, x, y, _, hy => by unfold VR at *; rw [← h.ρ]; exact hy
  | .int k e, x, y, _, hy => by unfold VR at *; rw [← h.ρ]; exact hy
  | .str l, x, y, _, hy => by unfold VR BR at *; rw [← h.ρ]; exact hy
  | .nilPtr, x, y, _, hy => by unfold VR at *; exact hy
  | .ptr i o, x, y, hx, hy => by
    unfold VR Cx.ad at *
    exact ⟨hx.1, by rw [← h.β i hx.1]; exact hy.2⟩
  | .nilSlice, x, y, _, hy => by unfold VR at *; exact hy
  | .slice i o len cp, x, y, hx, hy => by
    unfold VR Cx.ad at *
    obtain ⟨h1, cap, h2, _⟩ := hx
    obtain ⟨_, cap', h3, h4, h5⟩ := hy
    exact ⟨h1, cap', h2.back h h3, h4, by rw [← h.β i h1]; exact h5⟩
  | .nilMap, x, y, _, hy => by unfold VR at *; exact hy
  | .map i, x, y, hx, hy => by unfold VR at *; exact ⟨hx.1, by rw [← h.β i hx.1]; exact hy.2⟩
  | .func fn a b, x, y, hx, hy => by
    unfold VR at *
    obtain ⟨as, bs, e, h1, h2⟩ := hx
    obtain ⟨as', bs', e', h3, h4⟩ := hy
    exact ⟨as', bs', e', VRs.back h h1 h3, VRs.back h h2 h4⟩
  | .nilFunc, x, y, _, hy => by unfold VR at *; exact hy
  | .iface t v, x, y, hx, hy => by
    unfold VR at *
    obtain ⟨u, _, h1⟩ := hx
    obtain ⟨z, e, h2⟩ := hy
    exact ⟨z, e, VR.back h h1 h2⟩
  | .nilIface, x, y, _, hy => by unfold VR at *; exact hy
  | .agg l, x, y, hx, hy => by
    unfold VR at *
    obtain ⟨u, _, h1⟩ := hx
    obtain ⟨z, e, h2⟩ := hy
    exact ⟨z, e, VRs.back h h1 h2⟩
  | .tuple l, x, y, hx, hy => by
    unfold VR at *
    obtain ⟨u, _, h1⟩ := hx
    obtain ⟨z, e, h2⟩ := hy
    exact ⟨z, e, VRs.back h h1 h2⟩
  | .bad, x, y, _, _ => by unfold VR; trivial
  | .yld i, x, y, hx, hy => by unfold VR at *; exact ⟨hx.1, by rw [← h.β i hx.1]; exact hy.2⟩
  | .eslice i z, x, y, hx, hy => by
    unfold VR Cx.ad at *
    obtain ⟨_, o, cap, h1, h2⟩ := hy
    obtain ⟨g0, _, _, _, g2⟩ := hx
    refine ⟨g0, o, cap, by rw [← h.β i g0]; exact h1, ?_⟩
    cases z with
    | none => exact h2
    | some a => exact ⟨g2.1, h2.2.imp id fun ⟨k1, k2⟩ => ⟨k1, by rw [← h.γ _ g2.1]; exact k2⟩⟩
  | .sarr i sz n, x, y, hx, hy => by
    unfold VR Cx.ad at *
    obtain ⟨_, k, cap, h1, h2⟩ := hy
    exact ⟨hx.1, k, cap, by rw [← h.ρ]; exact h1, by rw [← h.β i hx.1, ← h.ρ]; exact h2⟩
  | .sptr i sz e f, x, y, hx, hy => by
    unfold VR Cx.ad at *
    obtain ⟨_, j, h1, h2⟩ := hy
    exact ⟨hx.1, j, by rw [← h.ρ]; exact h1, by rw [← h.β i hx.1]; exact h2⟩
theorem VRs.back (h : c.le c1) : ∀ {l : List V} {xs ys : List Value}, VRs c l xs → VRs c1 l ys → VRs c l ys
  | [], xs, ys, _, hy => by unfold VRs at *; exact hy
  | v :: l, xs, ys, hx, hy => by
    unfold VRs at *
    obtain ⟨x, r, _, h1, h2⟩ := hx
    obtain ⟨y, s, e, h3, h4⟩ := hy
    exact ⟨y, s, e, VR.back h h1 h3, VRs.back h h2 h4⟩
end

theorem KvR.back (h : c.le c1) : ∀ {es : List (V × V)} {l l1 : List MapEntry}, KvR c es l → KvR c1 es l1 → KvR c es l1
  | [], [], [], _, _ => trivial
  | _ :: _, _ :: _, _ :: _, ⟨h1, h2, h3⟩, ⟨k1, k2, k3⟩ => ⟨VR.back h h1 k1, VR.back h h2 k2, KvR.back h h3 k3⟩
  | [], _ :: _, _, h, _ => h.elim
  | [], [], _ :: _, _, h => h.elim
  | _ :: _, [], _, h, _ => h.elim
  | _ :: _, _ :: _, [], _, h => h.elim

theorem BlkR.back (h : c.le c1) {w w1 : World} {loc : Nat × Nat} {b : Blk} (hb : BlkR c w loc b) (hb1 : BlkR c1 w1 loc b) : BlkR c w1 loc b := by
  cases b with
  | cells l wr pl g =>
    obtain ⟨cs, t, fr, h1, h2, h3, h4, h5⟩ := hb
    obtain ⟨cs', t', fr', k1, k2, k3, k4, k5⟩ := hb1
    refine ⟨cs', t', fr', k1, fun j v hj => ?_, k3, k4, ?_⟩
    · obtain ⟨x, _, hx⟩ := h2 j v hj
      obtain ⟨y, hy, hv⟩ := k2 j v hj
      exact ⟨y, hy, VR.back h hx hv⟩
    · cases g with
      | none => trivial
      | some g => obtain ⟨tk, sz⟩ := g; exact ⟨h5.1, by show loc.2 + c.γ tk * sz ≤ cs'.size; rw [← h.γ tk h5.1]; exact k5.2⟩
  | map es clock wr =>
    obtain ⟨es', h1, h2⟩ := hb
    obtain ⟨es1, k1, k2⟩ := hb1
    exact ⟨es1, k1, k2.1, fun n e hn => by
      obtain ⟨x, _, hk, hv, _⟩ := h2.2 n e hn
      obtain ⟨y, hy, gk, gv, gb⟩ := k2.2 n e hn
      exact ⟨y, hy, VR.back h hk gk, VR.back h hv gv, gb⟩⟩
  | rsv => exact hb.elim
  | lp st pe ps a b n env =>
    obtain ⟨fn, tmps, df, h1, h2, h3, h4⟩ := hb
    obtain ⟨fn', tmps', df', k1, k2, k3, _⟩ := hb1
    exact ⟨fn', tmps', df', k1, k2, fun j => VR.back h (h3 j) (k3 j), h4⟩
  | pm es wr =>
    obtain ⟨es', k, h1, l', h2, h3⟩ := hb
    obtain ⟨es1, k1, g1, l1, g2, g3⟩ := hb1
    exact ⟨es1, k1, g1, l1, g2, h3.back h g3⟩
  | siter l pos =>
    obtain ⟨h0, ⟨hl, _, _, _, _, h2⟩ | ⟨e, r, z, hl, h1, h2⟩⟩ := hb <;> obtain ⟨_, ⟨hl', b', s', e', k1, k2⟩ | ⟨e', r', z', hl', k1, k2⟩⟩ := hb1
    · exact ⟨h0, .inl ⟨hl, b', s', e', k1, VR.back h h2 k2⟩⟩
    · rw [hl] at hl'; cases hl'
    · rw [hl] at hl'; cases hl'
    · refine ⟨h0, .inr ⟨e', r', z', hl', k1, ?_⟩⟩
      unfold BR at *; rw [← h.ρ]; exact k2
  | srow a ls n =>
    intro hn
    obtain ⟨cs, t, fr, k1, k2⟩ := hb1 (by rw [h.ρ]; exact hn)
    exact ⟨cs, t, fr, k1, fun q r l hq hl => by rw [← h.ρ] at hq ⊢; exact k2 q r l hq hl⟩

theorem Step.back {m m1 : Mem} {w w1 : World} (hm : MemR c m w) (s : Step c m w c1 m1 w1) (hs : subTr m.tr m1.tr = true) : Step c m w c m w1 :=
  ⟨⟨hm.nb, hm.nt, fun i b hb => by
      rcases (hm.blk i b hb).known with ⟨rfl, h1, h2⟩ | ⟨h1, h2⟩
      · exact ⟨h1, h2⟩
      · rcases (s.rel.blk i b (subTr_get hs hb)).known with ⟨rfl, _⟩ | ⟨_, h3⟩
        · exact h2.elim
        · rw [s.le.β i h1] at h3
          exact .of h1 (h2.back s.le h3), hm.inj, hm.tok⟩, Cx.le.refl c, s.os, s.tape, s.output, s.size, s.frame, fun _ h => .inl h, fun _ h => .inl h⟩
end back

/-- a value without places: it means the same for all names -/
noncomputable def flatV (v : V) : Bool := V.rec (motive_1 := fun _ => Bool) (motive_2 := fun _ => Bool)
  (fun _ => true) (fun _ _ => true) (fun _ => true) true (fun _ _ => false) true (fun _ _ _ _ => false) true (fun _ => false)
  (fun _ _ _ ia ib => andB ia ib) true (fun _ _ ih => ih) true (fun _ ih => ih) (fun _ ih => ih) true (fun _ _ _ => false) (fun _ _ _ _ => false) (fun _ _ => false) (fun _ => false) true (fun _ _ ih il => andB ih il) v

mutual
theorem flatV_R {c c1 : Cx} (h : c1.ρ = c.ρ) : ∀ {v : V} {x : Value}, flatV v = true → VR c1 v x → VR c v x
  | .bool b, x, _, hy => by unfold VR at *; rw [← h]; exact hy
  | .int k e, x, _, hy => by unfold VR at *; rw [← h]; exact hy
  | .str l, x, _, hy => by unfold VR BR at *; rw [← h]; exact hy
  | .nilPtr, x, _, hy => by unfold VR at *; exact hy
  | .ptr i o, x, hf, _ => (Bool.false_ne_true hf).elim
  | .nilSlice, x, _, hy => by unfold VR at *; exact hy
  | .slice i o len cp, x, hf, _ => (Bool.false_ne_true hf).elim
  | .nilMap, x, _, hy => by unfold VR at *; exact hy
  | .map i, x, hf, _ => (Bool.false_ne_true hf).elim
  | .func fn a b, x, hf, hy => by
    obtain ⟨f1, f2⟩ := andB_ok (show andB (flatV (.agg a)) (flatV (.agg b)) = true from hf)
    rw [VR.func] at *
    obtain ⟨as', bs', e', h3, h4⟩ := hy
    exact ⟨as', bs', e', flatVs_R h f1 h3, flatVs_R h f2 h4⟩
  | .nilFunc, x, _, hy => by unfold VR at *; exact hy
  | .iface t v, x, hf, hy => by
    rw [VR.iface] at *
    obtain ⟨z, e, h2⟩ := hy
    exact ⟨z, e, flatV_R h (show flatV v = true from hf) h2⟩
  | .nilIface, x, _, hy => by unfold VR at *; exact hy
  | .agg l, x, hf, hy => by
    rw [VR.agg] at *
    obtain ⟨z, e, h2⟩ := hy
    exact ⟨z, e, flatVs_R h hf h2⟩
  | .tuple l, x, hf, hy => by
    rw [VR.tuple] at *
    obtain ⟨z, e, h2⟩ := hy
    exact ⟨z, e, flatVs_R h (show flatV (.agg l) = true from hf) h2⟩
  | .bad, x, _, _ => by unfold VR; trivial
  | .sarr _ _ _, x, hf, _ => (Bool.false_ne_true hf).elim
  | .eslice _ _, x, hf, _ => (Bool.false_ne_true hf).elim
  | .yld _, x, hf, _ => (Bool.false_ne_true hf).elim
  | .sptr _ _ _ _, x, hf, _ => (Bool.false_ne_true hf).elim
theorem flatVs_R {c c1 : Cx} (h : c1.ρ = c.ρ) : ∀ {l : List V} {xs : List Value}, flatV (.agg l) = true → VRs c1 l xs → VRs c l xs
  | [], xs, _, hy => by rw [VRs.nil_iff] at *; exact hy
  | v :: l, xs, hf, hy => by
    obtain ⟨f1, f2⟩ := andB_ok (show andB (flatV v) (flatV (.agg l)) = true from hf)
    obtain ⟨x, r, rfl, h1, h2⟩ := VRs.cons_iff.1 hy
    exact VRs.cons (flatV_R h f1 h1) (flatVs_R h f2 h2)
end

/-! ### the join -/

/-- a leaf that leaves the memory as it was -/
noncomputable def quiet (m : Mem) (r : Rs V) : Bool := andB (flatV r.v) (subTr m.tr r.m.tr)

/-- all leaves are quiet, and give 'v' -/
noncomputable def allQ (m : Mem) (v : V) (t : T (Rs V)) : Bool := (T.rec (motive := fun _ => Bool) (fun r => andB (eqVV v r.v) (quiet m r)) (fun _ _ _ ix iy => andB ix iy) (fun _ => false) (t))

noncomputable def firstV (t : T (Rs V)) : Option V := (T.rec (motive := fun _ => Option V) (fun r => some r.v) (fun _ _ _ ix _ => ix) (fun _ => none) (t))

/-- a quiet leaf: the memory as it was -/
noncomputable def dropT (m : Mem) (t : T (Rs V)) : T (Rs V) := (T.rec (motive := fun _ => T (Rs V)) (fun r => selB (quiet m r) (.ret ⟨r.v, m, r.p⟩) (.ret r)) (fun c _ _ ix iy => .br c ix iy) (fun s => .fail s) (t))

noncomputable def joinT (m : Mem) (p : Pc) (t : T (Rs V)) : T (Rs V) := (Option.rec (motive := fun _ => T (Rs V)) (t) (fun v => selB (allQ m v t) (.ret ⟨v, m, p⟩) (dropT m t)) (firstV t))

noncomputable def joinM (ev : List V → M V) (l : List V) : M V := fun m p => joinT m p (ev l m p)

noncomputable def kwJoin (fs : List Nat) (r : Kw) : Kw := fun i => selB (memN fs i) (some joinM) (r i)

theorem allQ_out {ρ : Nat → Int} {m : Mem} {v : V} : ∀ {t : T (Rs V)}, allQ m v t = true → ∃ m1 q, t.out ρ = some ⟨v, m1, q⟩ ∧ quiet m ⟨v, m1, q⟩ = true
  | .ret ⟨u, m1, q⟩, h => by
    obtain ⟨h1, h2⟩ := andB_ok (show andB (eqVV v u) (quiet m ⟨u, m1, q⟩) = true from h)
    have := eqVV_ok _ _ h1
    subst this
    exact ⟨m1, q, rfl, h2⟩
  | .br c x y, h => by
    obtain ⟨h1, h2⟩ := andB_ok (show andB (allQ m v x) (allQ m v y) = true from h)
    simp only [T.out]
    cases c.den ρ with
    | true => obtain ⟨m1, q, e1, e2⟩ := allQ_out (ρ := ρ) h1; exact ⟨m1, q, by simpa using e1, e2⟩
    | false => obtain ⟨m1, q, e1, e2⟩ := allQ_out (ρ := ρ) h2; exact ⟨m1, q, by simpa using e1, e2⟩
  | .fail _, h => (Bool.false_ne_true h).elim

theorem dropT_out {ρ : Nat → Int} {m : Mem} {r : Rs V} : ∀ {t : T (Rs V)}, (dropT m t).out ρ = some r → t.out ρ = some r ∨ ∃ m1, t.out ρ = some ⟨r.v, m1, r.p⟩ ∧ r.m = m ∧ quiet m ⟨r.v, m1, r.p⟩ = true
  | .ret ⟨u, m1, q⟩, h => by
    have h : (selB (quiet m ⟨u, m1, q⟩) (T.ret (⟨u, m, q⟩ : Rs V)) (.ret ⟨u, m1, q⟩)).out ρ = some r := h
    cases hq : quiet m ⟨u, m1, q⟩ with
    | false => rw [hq] at h; exact .inl h
    | true =>
      rw [hq] at h
      simp [selB, T.out] at h
      subst h
      exact .inr ⟨m1, rfl, rfl, hq⟩
  | .br c x y, h => by
    have h : (T.br c (dropT m x) (dropT m y)).out ρ = some r := h
    simp only [T.out] at h ⊢
    cases hc : c.den ρ with
    | true => rw [hc] at h; exact dropT_out (t := x) (by simpa using h)
    | false => rw [hc] at h; exact dropT_out (t := y) (by simpa using h)
  | .fail _, h => .inl h

theorem joinM_ok {P : Program} {ρ : Nat → Int} {f : FuncId} {ev : List V → M V} (hev : FnOK P ρ f ev) : FnOK P ρ f (joinM ev) := by
  intro l c m m' w p q v args hρ hm hp hg hl h
  have back : ∀ (m1 : Mem) (q1 : Pc), (ev l m p).out c.ρ = some ⟨v, m1, q1⟩ → quiet m ⟨v, m1, q1⟩ = true → ∀ q', (PcR c.ρ q1 → PcR c.ρ q') → CallOK P f args c m w m v q' := by
    intro m1 q1 ho hq q' hpq
    obtain ⟨h1, h2⟩ := andB_ok hq
    obtain ⟨k1, k2⟩ := hev l c m m1 w p q1 v args hρ hm hp hg hl ho
    refine ⟨k1, k2.mono fun e w' hR => ?_⟩
    obtain ⟨c1, z, rfl, s, hz, hq1⟩ := hR
    exact ⟨c, z, rfl, s.back hm h2, flatV_R s.le.ρ h1 hz, hpq hq1⟩
  have h : (Option.rec (ev l m p) (fun v => selB (allQ m v (ev l m p)) (.ret ⟨v, m, p⟩) (dropT m (ev l m p))) (firstV (ev l m p)) : T (Rs V)).out c.ρ = some ⟨v, m', q⟩ := h
  cases hf : firstV (ev l m p) with
  | none => rw [hf] at h; exact hev l c m m' w p q v args hρ hm hp hg hl h
  | some u =>
    rw [hf] at h
    have h : (selB (allQ m u (ev l m p)) (T.ret (⟨u, m, p⟩ : Rs V)) (dropT m (ev l m p))).out c.ρ = some ⟨v, m', q⟩ := h
    cases ha : allQ m u (ev l m p) with
    | true =>
      rw [ha] at h
      simp [selB, T.out] at h
      obtain ⟨rfl, rfl, rfl⟩ := h
      obtain ⟨m1, q1, e1, e2⟩ := allQ_out (ρ := c.ρ) ha
      exact back m1 q1 e1 e2 p fun _ => hp
    | false =>
      rw [ha] at h
      rcases dropT_out (show (dropT m (ev l m p)).out c.ρ = some ⟨v, m', q⟩ from h) with h1 | ⟨m1, h1, h2, h3⟩
      · exact hev l c m m' w p q v args hρ hm hp hg hl h1
      · have h2 : m' = m := h2
        subst h2
        exact back m1 q h1 h3 q id

theorem kwJoin_ok {P : Program} {ρ : Nat → Int} {fs : List Nat} {r : Kw} (hr : KwOK P ρ r) : KwOK P ρ (kwJoin fs r) := by
  intro f tr h ev hev
  have h : selB (memN fs f) (some joinM) (r f) = some tr := h
  cases hm : memN fs f with
  | true =>
    rw [hm] at h
    have h : some joinM = some tr := h
    simp at h; subst h
    exact joinM_ok hev
  | false => rw [hm] at h; exact hr f tr h ev hev

end Go.Sy

/-
  What is proved here: code whose ways are joined where they end alike: a slot that differs is not known any more.
  Conditions: none.
-/
namespace Go.Sy

/-! ### memories that are one -/

noncomputable def eqOBx (a b : Option Blk) : Bool := (Option.rec (motive := fun _ => Bool) ((Option.rec (motive := fun _ => Bool) (true) (fun _ => false) (b))) (fun x => (Option.rec (motive := fun _ => Bool) (false) (fun y => eqBlk x y) (b))) (a))
noncomputable def eqON (a b : Option Nat) : Bool := (Option.rec (motive := fun _ => Bool) ((Option.rec (motive := fun _ => Bool) (true) (fun _ => false) (b))) (fun x => (Option.rec (motive := fun _ => Bool) (false) (fun y => Nat.beq x y) (b))) (a))

noncomputable def eqTr {α : Type} (f : Option α → Option α → Bool) (t : Tr α) : Tr α → Bool :=
  Tr.rec (motive := fun _ => Tr α → Bool) (fun u => Tr.rec (motive := fun _ => Bool) true (fun _ _ _ _ _ _ _ _ _ => false) u) (fun v _ _ _ _ i0 i1 i2 i3 u => Tr.rec (motive := fun _ => Bool) false (fun w u0 u1 u2 u3 _ _ _ _ => andB (f v w) (andB (andB (i0 u0) (i1 u1)) (andB (i2 u2) (i3 u3)))) u) t

noncomputable def eqMem (a b : Mem) : Bool := (Mem.rec (motive := fun _ => Bool) (fun t n k u => (Mem.rec (motive := fun _ => Bool) (fun t' n' k' u' => andB (andB (Nat.beq n n') (Nat.beq u u')) (andB (eqTr eqON k k') (eqTr eqOBx t t'))) (b))) (a))

theorem eqTr_ok {α : Type} {f : Option α → Option α → Bool} (hf : ∀ a b, f a b = true → a = b) : ∀ {t u : Tr α}, eqTr f t u = true → t = u
  | .nil, .nil, _ => rfl
  | .nil, .node .., h => (Bool.false_ne_true h).elim
  | .node .., .nil, h => (Bool.false_ne_true h).elim
  | .node v t0 t1 t2 t3, .node w u0 u1 u2 u3, h => by
    obtain ⟨h1, h2⟩ := andB_ok (show andB (f v w) (andB (andB (eqTr f t0 u0) (eqTr f t1 u1)) (andB (eqTr f t2 u2) (eqTr f t3 u3))) = true from h)
    obtain ⟨h3, h4⟩ := andB_ok h2
    obtain ⟨h5, h6⟩ := andB_ok h3
    obtain ⟨h7, h8⟩ := andB_ok h4
    rw [hf _ _ h1, eqTr_ok hf h5, eqTr_ok hf h6, eqTr_ok hf h7, eqTr_ok hf h8]

theorem eqOBx_ok (a b : Option Blk) (h : eqOBx a b = true) : a = b := by
  cases a <;> cases b <;> try exact (Bool.false_ne_true h).elim
  · rfl
  · exact congrArg some (eqBlk_ok h)

theorem eqON_ok (a b : Option Nat) (h : eqON a b = true) : a = b := by
  cases a <;> cases b <;> try exact (Bool.false_ne_true h).elim
  · rfl
  · exact congrArg some ((beq_iff _ _).1 h)

theorem eqMem_ok {a b : Mem} (h : eqMem a b = true) : a = b := by
  obtain ⟨t, n, k, u⟩ := a
  obtain ⟨t', n', k', u'⟩ := b
  obtain ⟨h1, h2⟩ := andB_ok (show andB (andB (Nat.beq n n') (Nat.beq u u')) (andB (eqTr eqON k k') (eqTr eqOBx t t')) = true from h)
  obtain ⟨h3, h4⟩ := andB_ok h1
  obtain ⟨h5, h6⟩ := andB_ok h2
  rw [(beq_iff _ _).1 h3, (beq_iff _ _).1 h4, eqTr_ok eqON_ok h5, eqTr_ok eqOBx_ok h6]

/-! ### ways that end alike -/

noncomputable def sameX (a b : X) : Bool := (X.rec (motive := fun _ => Bool) ((X.rec (motive := fun _ => Bool) (true) (fun _ => false) (false) (fun _ => false) (b))) (fun i => (X.rec (motive := fun _ => Bool) (false) (fun j => Nat.beq i j) (false) (fun _ => false) (b))) ((X.rec (motive := fun _ => Bool) (false) (fun _ => false) (true) (fun _ => false) (b))) (fun i => (X.rec (motive := fun _ => Bool) (false) (fun _ => false) (false) (fun j => Nat.beq i j) (b))) (a))

/-! a number that is either a or a + d, by a bit -/

/-- a term that the condition fixes: where it is 0 or 1, it is 1 just if the condition is as told -/
noncomputable def bitE (c : B) : Bool → Option (E × Bool) := (B.rec (motive := fun _ => Bool → Option (E × Bool)) (fun _ => fun _ => none) (fun _ _ => fun _ => none) (fun a b => fun s => onN b (fun z => selB (eqZ z 1) (some (a, s)) (selB (eqZ z 0) (some (a, notB s)) none)) none) (fun _ ih => fun s => ih (notB s)) (c))

noncomputable def in01 (rng : List (Int × Int)) (b : E) : Bool := (Option.rec (motive := fun _ => Bool) (false) (fun x => andB (leZ 0 x.1) (leZ x.2 1)) (b.iv rng))

noncomputable def linI (rng : List (Int × Int)) (k : IntKind) (b a1 a0 : E) (d : Int) : V :=
  selB (andB (andB (leZ (kMin k) d) (leZ d (kMax k))) (orB (eqE (mkBin .add k a0 (.n d)) a1) (eqE (canon rng (mkBin .add k a0 (.n d))) a1)))
    (.int k (canon rng (mkBin .add k a0 (mkBin .mul k b (.n d))))) .bad

noncomputable def linK (rng : List (Int × Int)) (k : IntKind) (b a1 a0 : E) : V := linI rng k b a1 a0 (Int.sub (a1.den fun _ => 0) (a0.den fun _ => 0))

/-- v where c holds, w where it does not -/
noncomputable def linV (rng : List (Int × Int)) (c : B) (v w : V) : V := (Option.rec (motive := fun _ => V) (.bad) (fun x => selB (in01 rng x.1) (onInt v (fun k e => onInt w (fun k' f => selB (Nat.beq (kindNo k) (kindNo k')) (linK rng k x.1 (selB x.2 e f) (selB x.2 f e)) .bad) .bad) .bad) .bad) (bitE c true))

noncomputable def isBad (v : V) : Bool := (V.rec (motive_1 := fun _ => Bool) (motive_2 := fun _ => Unit) (fun _ => false) (fun _ _ => false) (fun _ => false) (false) (fun _ _ => false) (false) (fun _ _ _ _ => false) (false) (fun _ => false) (fun _ _ _ _ _ => false) (false) (fun _ _ _ => false) (false) (fun _ _ => false) (fun _ _ => false) (true) (fun _ _ _ => false) (fun _ _ _ _ => false) (fun _ _ => false) (fun _ => false) Unit.unit (fun _ _ _ _ => Unit.unit) (v))

noncomputable def mergeV (rng : List (Int × Int)) (c : B) (v w : V) : V := selB (eqVV v w) v (linV rng c v w)
noncomputable def okJ (rng : List (Int × Int)) (c : B) (v w : V) : Bool := orB (eqVV v w) (notB (isBad (linV rng c v w)))

noncomputable def mergeE (rng : List (Int × Int)) (c : B) (e f : Env) : Env := fun j => mergeV rng c (e j) (f j)

noncomputable def mergeR (ks : List Nat) (c : B) (r s : Rs XE) (p : Pc) (d : T (Rs XE)) : T (Rs XE) :=
  onXE r.v fun x e => onXE s.v fun y f => selB (andB (sameX x y) (andB (allL (fun j => okJ p.rng c (e j) (f j)) ks) (eqMem r.m s.m))) (.ret ⟨⟨x, mergeE p.rng c e f⟩, r.m, p⟩) d

noncomputable def onRet {α β : Type} (t : T α) (f : α → β) (d : β) : β := (T.rec (motive := fun _ => β) (fun r => f r) (fun _ _ _ _ _ => d) (fun _ => d) (t))

noncomputable def brJ (ks : List Nat) (c : B) (p : Pc) (x y : T (Rs XE)) : T (Rs XE) := onRet x (fun r => onRet y (fun s => mergeR ks c r s p (.br c x y)) (.br c x y)) (.br c x y)

noncomputable def joinX (ks : List Nat) (t : T (Rs XE)) : Pc → T (Rs XE) := (T.rec (motive := fun _ => Pc → T (Rs XE)) (fun r => fun _ => .ret r) (fun c _ _ ix iy => fun p => brJ ks c p (ix (p.add c true)) (iy (p.add c false))) (fun s => fun _ => .fail s) (t))

noncomputable def joinXM (ks : List Nat) (x : M XE) : M XE := fun m p => joinX ks (x m p) p

theorem bitE_ok {ρ : Nat → Int} : ∀ {c : B} {s : Bool} {b : E} {t : Bool}, bitE c s = some (b, t) → 0 ≤ b.den ρ → b.den ρ ≤ 1 → (c.den ρ = s ↔ b.den ρ = if t then 1 else 0)
  | .lit v, s, b, t, h, _, _ => nomatch h
  | .lt a b', s, b, t, h, _, _ => nomatch h
  | .eq a b', s, b, t, h, h0, h1 => by
    have h : onN b' (fun z => selB (eqZ z 1) (some (a, s)) (selB (eqZ z 0) (some (a, notB s)) none)) none = some (b, t) := h
    cases b' with
    | n z =>
      have h : selB (eqZ z 1) (some (a, s)) (selB (eqZ z 0) (some (a, notB s)) none) = some (b, t) := h
      have hd : (B.eq a (.n z)).den ρ = (a.den ρ == z) := rfl
      rw [hd]
      cases e1 : eqZ z 1 with
      | true =>
        rw [e1] at h
        have h : some (a, s) = some (b, t) := h
        simp at h
        obtain ⟨rfl, rfl⟩ := h
        have := (eqZ_iff _ _).1 e1
        subst this
        cases s <;> simp <;> omega
      | false =>
        rw [e1] at h
        have h : selB (eqZ z 0) (some (a, notB s)) none = some (b, t) := h
        obtain ⟨e0, h⟩ := selB_someB h
        have := (eqZ_iff _ _).1 e0
        subst this
        simp at h
        obtain ⟨rfl, rfl⟩ := h
        cases s <;> simp <;> omega
    | _ => exact nomatch h
  | .not a, s, b, t, h, h0, h1 => by
    have h : bitE a (notB s) = some (b, t) := h
    have := bitE_ok h h0 h1
    rw [← this]
    show (!a.den ρ) = s ↔ _
    cases a.den ρ <;> cases s <;> simp [notB]

theorem linI_ok {ρ : Nat → Int} {rng : List (Int × Int)} (hr : RngR ρ rng) {k : IntKind} {b a1 a0 : E} {d : Int} {e : E} {k' : IntKind} (h : linI rng k b a1 a0 d = .int k' e) : k' = k ∧ (b.den ρ = 1 → e.den ρ = a1.den ρ) ∧ (b.den ρ = 0 → kMin k ≤ a0.den ρ → a0.den ρ ≤ kMax k → e.den ρ = a0.den ρ) := by
  unfold linI at h
  cases hb : andB (andB (leZ (kMin k) d) (leZ d (kMax k))) (orB (eqE (mkBin .add k a0 (.n d)) a1) (eqE (canon rng (mkBin .add k a0 (.n d))) a1)) with
  | false => rw [hb] at h; exact nomatch h
  | true =>
    rw [hb] at h
    have h : V.int k (canon rng (mkBin .add k a0 (mkBin .mul k b (.n d)))) = .int k' e := h
    simp at h
    obtain ⟨rfl, rfl⟩ := h
    obtain ⟨h1, h2⟩ := andB_ok hb
    obtain ⟨h3, h4⟩ := andB_ok h1
    rw [leZ_iff] at h3 h4
    have wr : ∀ z : Int, kMin k ≤ z → z ≤ kMax k → wrapZ k z = z := fun z g1 g2 => by rw [wrapZ_eq]; exact wrap_in k z g1 g2
    have e1 : (canon rng (mkBin .add k a0 (mkBin .mul k b (.n d)))).den ρ = wrapZ k (a0.den ρ + wrapZ k (b.den ρ * d)) := by rw [canon_den hr, mkBin_den, mkBin_den]; rfl
    have es : (mkBin .add k a0 (.n d)).den ρ = wrapZ k (a0.den ρ + d) := by rw [mkBin_den]; rfl
    refine ⟨rfl, fun hb1 => ?_, fun hb0 g1 g2 => ?_⟩
    · rw [e1, hb1, Int.one_mul, wr d h3 h4, ← es]
      rcases orB_ok h2 with h | h
      · rw [eqE_ok h]
      · rw [← eqE_ok h, canon_den hr]
    · rw [e1, hb0, Int.zero_mul, wr 0 (by cases k <;> simp [kMin, IntKind.signed, limN]) (by cases k <;> simp [kMax, limN]), Int.add_zero, wr _ g1 g2]

theorem linI_cases (rng : List (Int × Int)) (k : IntKind) (b a1 a0 : E) (d : Int) : linI rng k b a1 a0 d = .bad ∨ ∃ e, linI rng k b a1 a0 d = .int k e := by
  unfold linI
  cases andB (andB (leZ (kMin k) d) (leZ d (kMax k))) (orB (eqE (mkBin .add k a0 (.n d)) a1) (eqE (canon rng (mkBin .add k a0 (.n d))) a1)) with
  | false => exact .inl rfl
  | true => exact .inr ⟨_, rfl⟩

theorem in01_ok {ρ : Nat → Int} {rng : List (Int × Int)} (hr : RngR ρ rng) {b : E} (h : in01 rng b = true) : 0 ≤ b.den ρ ∧ b.den ρ ≤ 1 := by
  unfold in01 at h
  cases hi : b.iv rng with
  | none => rw [hi] at h; exact nomatch h
  | some x =>
    rw [hi] at h
    obtain ⟨h1, h2⟩ := andB_ok (show andB (leZ 0 x.1) (leZ x.2 1) = true from h)
    rw [leZ_iff] at h1 h2
    obtain ⟨h3, h4⟩ := E.iv_in hr (show b.iv rng = some (x.1, x.2) from hi)
    omega

/-- what linV tells, it tells of both ways -/
theorem linV_ok {cx : Cx} {rng : List (Int × Int)} (hr : RngR cx.ρ rng) {c : B} {v w : V} {x : Value} (h : VR cx (selB (c.den cx.ρ) v w) x) : VR cx (linV rng c v w) x := by
  unfold linV
  cases hb : bitE c true with
  | none => exact VR.bad
  | some y =>
    obtain ⟨b, t⟩ := y
    show VR cx (selB (in01 rng b) (onInt v (fun k e => onInt w (fun k' f => selB (Nat.beq (kindNo k) (kindNo k')) (linK rng k b (selB t e f) (selB t f e)) .bad) .bad) .bad) .bad) x
    cases hi : in01 rng b with
    | false => exact VR.bad
    | true =>
    obtain ⟨h0, h1⟩ := in01_ok hr hi
    have hc := bitE_ok hb h0 h1
    show VR cx (onInt v (fun k e => onInt w (fun k' f => selB (Nat.beq (kindNo k) (kindNo k')) (linK rng k b (selB t e f) (selB t f e)) .bad) .bad) .bad) x
    rcases onInt_cases v (fun k e => onInt w (fun k' f => selB (Nat.beq (kindNo k) (kindNo k')) (linK rng k b (selB t e f) (selB t f e)) .bad) .bad) .bad with ⟨k, e, rfl, e1⟩ | e1 <;> rw [e1]
    · rcases onInt_cases w (fun k' f => selB (Nat.beq (kindNo k) (kindNo k')) (linK rng k b (selB t e f) (selB t f e)) .bad) .bad with ⟨k', f, rfl, e2⟩ | e2 <;> rw [e2]
      · cases hk : Nat.beq (kindNo k) (kindNo k') with
        | false => exact VR.bad
        | true =>
          have := kindNo_inj hk
          subst this
          show VR cx (linK rng k b (selB t e f) (selB t f e)) x
          unfold linK
          rcases linI_cases rng k b (selB t e f) (selB t f e) (Int.sub ((selB t e f).den fun _ => 0) ((selB t f e).den fun _ => 0)) with e3 | ⟨z, e3⟩
          · rw [e3]; exact VR.bad
          · obtain ⟨_, g1, g2⟩ := linI_ok (ρ := cx.ρ) hr e3
            rw [e3]
            have hx : x = .int k ((selB (c.den cx.ρ) e f).den cx.ρ) ∧ kMin k ≤ (selB (c.den cx.ρ) e f).den cx.ρ ∧ (selB (c.den cx.ρ) e f).den cx.ρ ≤ kMax k := by
              cases hcd : c.den cx.ρ <;> rw [hcd] at h <;> exact VR.int.1 h
            have key : z.den cx.ρ = (selB (c.den cx.ρ) e f).den cx.ρ := by
              cases hcd : c.den cx.ρ with
              | true =>
                have hbt := hc.1 hcd
                cases t with
                | true => exact g1 (by simpa using hbt)
                | false =>
                  have := hx.2
                  rw [hcd] at this
                  exact g2 (by simpa using hbt) this.1 this.2
              | false =>
                have hbt : ¬ b.den cx.ρ = if t then 1 else 0 := fun h => by rw [hc.2 h] at hcd; simp at hcd
                have := hx.2
                rw [hcd] at this
                cases t with
                | true => exact g2 (by simp at hbt; omega) this.1 this.2
                | false => exact g1 (by simp at hbt; omega)
            exact VR.int.2 ⟨by rw [key]; exact hx.1, by rw [key]; exact hx.2.1, by rw [key]; exact hx.2.2⟩
      · exact VR.bad
    · exact VR.bad

/-- what e' tells, e tells too -/
def Less (ρ : Nat → Int) (e' e : Env) : Prop := ∀ (c : Cx), c.ρ = ρ → ∀ j v, VR c (e j) v → VR c (e' j) v

theorem Less.trans {ρ : Nat → Int} {a b c : Env} (h : Less ρ a b) (g : Less ρ b c) : Less ρ a c := fun x hx j v hv => h x hx j v (g x hx j v hv)

theorem mergeE_ok {ρ : Nat → Int} {rng : List (Int × Int)} (hr : RngR ρ rng) {c : B} (e f : Env) {b : Bool} (hc : c.den ρ = b) : Less ρ (mergeE rng c e f) (fun j => selB b (e j) (f j)) := by
  intro cx hx j v hv
  subst hx
  show VR cx (selB (eqVV (e j) (f j)) (e j) (linV rng c (e j) (f j))) v
  cases h : eqVV (e j) (f j) with
  | true =>
    have := eqVV_ok _ _ h
    show VR cx (e j) v
    have hv : VR cx (selB b (e j) (f j)) v := hv
    rw [← this] at hv
    cases b <;> exact hv
  | false => exact linV_ok hr (by rw [hc]; exact hv)

theorem sameX_ok {a b : X} (h : sameX a b = true) : a = b := by
  cases a <;> cases b <;> first
    | rfl
    | exact (Bool.false_ne_true h).elim
    | exact congrArg X.exit ((beq_iff _ _).1 h)
    | exact congrArg X.goto ((beq_iff _ _).1 h)

theorem onRet_cases {α β : Type} (t : T α) (f : α → β) (d : β) : (∃ r, t = .ret r ∧ onRet t f d = f r) ∨ onRet t f d = d := by
  cases t with
  | ret r => exact .inl ⟨r, rfl, rfl⟩
  | br c x y => exact .inr rfl
  | fail s => exact .inr rfl

theorem joinX_out {ρ : Nat → Int} {ks : List Nat} : ∀ {t : T (Rs XE)} {p : Pc} {r : Rs XE}, PcR ρ p → (joinX ks t p).out ρ = some r →
    ∃ e q, t.out ρ = some ⟨⟨r.v.x, e⟩, r.m, q⟩ ∧ Less ρ r.v.env e ∧ (PcR ρ q → PcR ρ r.p)
  | .ret s, p, r, _, h => by
    have h := Option.some.inj (show some s = some r from h)
    subst h
    exact ⟨s.v.env, s.p, rfl, fun _ _ _ _ h => h, id⟩
  | .fail s, p, r, _, h => nomatch h
  | .br c x y, p, r, hp, h => by
    have hx := fun {r : Rs XE} => joinX_out (ρ := ρ) (ks := ks) (t := x) (p := p.add c true) (r := r)
    have hy := fun {r : Rs XE} => joinX_out (ρ := ρ) (ks := ks) (t := y) (p := p.add c false) (r := r)
    have plain : (T.br c (joinX ks x (p.add c true)) (joinX ks y (p.add c false))).out ρ = some r → ∃ e q, (T.br c x y).out ρ = some ⟨⟨r.v.x, e⟩, r.m, q⟩ ∧ Less ρ r.v.env e ∧ (PcR ρ q → PcR ρ r.p) := fun h => by
      simp only [T.out] at h ⊢
      cases hc : c.den ρ with
      | true =>
        rw [hc] at h
        obtain ⟨e, q, h1, h2⟩ := hx (Pc.add_ok hp hc) (by simpa using h)
        exact ⟨e, q, by simpa using h1, h2⟩
      | false =>
        rw [hc] at h
        obtain ⟨e, q, h1, h2⟩ := hy (Pc.add_ok hp hc) (by simpa using h)
        exact ⟨e, q, by simpa using h1, h2⟩
    have h : (brJ ks c p (joinX ks x (p.add c true)) (joinX ks y (p.add c false))).out ρ = some r := h
    unfold brJ at h
    rcases onRet_cases (joinX ks x (p.add c true)) (fun r => onRet (joinX ks y (p.add c false)) (fun s => mergeR ks c r s p (.br c (joinX ks x (p.add c true)) (joinX ks y (p.add c false)))) (.br c (joinX ks x (p.add c true)) (joinX ks y (p.add c false)))) (.br c (joinX ks x (p.add c true)) (joinX ks y (p.add c false))) with ⟨r1, e1, h1⟩ | h1
    · rw [h1] at h
      rcases onRet_cases (joinX ks y (p.add c false)) (fun s => mergeR ks c r1 s p (.br c (joinX ks x (p.add c true)) (joinX ks y (p.add c false)))) (.br c (joinX ks x (p.add c true)) (joinX ks y (p.add c false))) with ⟨r2, e2, h2⟩ | h2
      · rw [h2] at h
        obtain ⟨⟨x1, f1⟩, m1, q1⟩ := r1
        obtain ⟨⟨x2, f2⟩, m2, q2⟩ := r2
        have h : (selB (andB (sameX x1 x2) (andB (allL (fun j => okJ p.rng c (f1 j) (f2 j)) ks) (eqMem m1 m2))) (.ret ⟨⟨x1, mergeE p.rng c f1 f2⟩, m1, p⟩) (.br c (joinX ks x (p.add c true)) (joinX ks y (p.add c false))) : T (Rs XE)).out ρ = some r := h
        cases hb : andB (sameX x1 x2) (andB (allL (fun j => okJ p.rng c (f1 j) (f2 j)) ks) (eqMem m1 m2)) with
        | false => rw [hb] at h; exact plain h
        | true =>
          rw [hb] at h
          have h := Option.some.inj (show some (⟨⟨x1, mergeE p.rng c f1 f2⟩, m1, p⟩ : Rs XE) = some r from h)
          subst h
          obtain ⟨g1, g2⟩ := andB_ok hb
          obtain ⟨_, g4⟩ := andB_ok g2
          have gx := sameX_ok g1
          have gm := eqMem_ok g4
          subst gx gm
          simp only [T.out]
          cases hc : c.den ρ with
          | true =>
            obtain ⟨e, q, k1, k2, _⟩ := hx (Pc.add_ok hp hc) (show (joinX ks x (p.add c true)).out ρ = some ⟨⟨x1, f1⟩, m1, q1⟩ by rw [e1]; rfl)
            exact ⟨e, q, by simpa using k1, (mergeE_ok hp.rng f1 f2 hc).trans k2, fun _ => hp⟩
          | false =>
            obtain ⟨e, q, k1, k2, _⟩ := hy (Pc.add_ok hp hc) (show (joinX ks y (p.add c false)).out ρ = some ⟨⟨x1, f2⟩, m1, q2⟩ by rw [e2]; rfl)
            exact ⟨e, q, by simpa using k1, (mergeE_ok hp.rng f1 f2 hc).trans k2, fun _ => hp⟩
      · rw [h2] at h; exact plain h
    · rw [h1] at h; exact plain h

/-! ### code -/

/-- the first region's number -/
noncomputable def headId (c : Code) : Option Nat := (Code.rec (motive := fun _ => Option Nat) (none) (fun id _ _ => some id) (fun _ _ ia _ => ia) (fun _ _ _ _ _ => none) (fun _ _ ih => ih) (fun _ ih => ih) (fun _ _ _ _ _ _ => none) (fun _ => none) (fun _ _ => none) (fun _ => none) (fun _ => none) (none) (fun _ => none) (c))

/-- the slots that are compared behind a statement that begins with that region -/
noncomputable def pickJ (js : List (Nat × List Nat)) (i : Nat) : Option (List Nat) := (List.rec (motive := fun _ => Option (List Nat)) (none) (fun x _ ih => selB (Nat.beq x.1 i) (some x.2) ih) (js))
noncomputable def joinOf (js : List (Nat × List Nat)) (y : Code) : Option (List Nat) := (Option.rec (motive := fun _ => Option (List Nat)) (none) (fun i => pickJ js i) (headId y))
noncomputable def joinO (o : Option (List Nat)) (x : M XE) : M XE := (Option.rec (motive := fun _ => M XE) (x) (fun ks => joinXM ks x) (o))

noncomputable def evCoC (js : List (Nat × List Nat)) (ks : List Nat) (c : Code) : Program → (FuncId → List V → M V) → Nat → Nat → CF := (Code.rec (motive := fun _ => Program → (FuncId → List V → M V) → Nat → Nat → CF) (fun _ _ _ _ => plainF fun env => M.pure ⟨.normal, env⟩) (fun _ ops d => fun P cf _ n => plainF fun env => selB d (evDrawn ops P cf n env) (evReg ops P cf n env)) (fun _ y ia ib => fun P cf it n => ⟨fun env => joinO (joinOf js y) (seqRun (ia P cf it n).run (ib P cf it n).run env), seqFr (ia P cf it n) (ib P cf it n)⟩) (fun c _ _ ix iy => fun P cf it n => plainF fun env => joinXM ks ((condV (opd c env)).thn fun b => (Bool.rec (motive := fun _ => M XE) ((iy P cf it n).run env) ((ix P cf it n).run env) (b)))) (fun id _ ih => fun P cf it n => plainF fun env => joinXM ks (((ih P cf it n).run env).bnd (blockX id))) (fun _ ih => fun P cf it n => plainF fun env => (iter (fun env => joinXM ks ((ih P cf it n).run env)) it env).bnd loopX) (fun _ _ _ _ _ _ => fun _ _ _ _ => plainF fun _ => M.fail "code") (fun id => fun _ _ _ _ => plainF fun env => M.pure ⟨.exit id, env⟩) (fun _ ih => fun P cf it n => plainF fun env => ((ih P cf it n).run env).bnd (scopeX (ih P cf it n).fr 6)) (fun k => fun _ _ _ _ => ⟨fun env => M.pure ⟨.normal, env⟩, labFr k⟩) (fun l => fun _ _ _ _ => plainF fun env => M.pure ⟨.goto l, env⟩) (fun _ _ _ _ => plainF fun env => M.pure ⟨.ret, env⟩) (fun _ => fun _ _ _ _ => plainF fun _ => M.fail "code") (c))

noncomputable def evCo (js : List (Nat × List Nat)) (ks : List Nat) (c : Code) (P : Program) (cf : FuncId → List V → M V) (it n : Nat) : Env → M XE := (evCoC js ks c P cf it n).run

noncomputable def evOneC (js : List (Nat × List Nat)) (ks : List Nat) (P : Program) (cf : FuncId → List V → M V) (it : Nat) (f : FuncId) (args : List V) : M V := (Option.rec (motive := fun _ => M V) (M.fail "no such function") (fun fn => (Option.rec (motive := fun _ => M V) (M.fail fn.name) (fun c => (evCo js ks c P cf it (slots fn.ntmps args) (setArgs args 0 env0)).bnd (endX P fn)) (fn.body))) (P.funcs[f]?))

/-- function f is run with joined ways: those that are alike in the slots ks -/
noncomputable def kwCo (P : Program) (cf : FuncId → List V → M V) (it : Nat) (f : FuncId) (js : List (Nat × List Nat)) (ks : List Nat) (r : Kw) : Kw := fun i => selB (Nat.beq i f) (some fun _ => evOneC js ks P cf it f) (r i)

section ops
variable {P : Program} {ρ : Nat → Int} {n : Nat}

theorem CodeOK.join {code : Code} {ev : Env → M XE} (h : CodeOK false true P ρ n code ev) (ks : List Nat) : CodeOK false true P ρ n code fun env => joinXM ks (ev env) := by
  intro c m m' w p q env r a hρ hm hp he hg z hz Q hQ
  obtain ⟨e, q0, h1, h2, h3⟩ := joinX_out hp (show (joinX ks (ev env m p) p).out c.ρ = some ⟨r, m', q⟩ from hg)
  refine h hρ hm hp he (show (ev env m p).out c.ρ = some ⟨⟨r.x, e⟩, m', q0⟩ from h1) z hz Q fun a' w' hq hA => hQ a' w' (h3 hq) ?_
  obtain ⟨c', Ds, s, he', hd, hD, hf⟩ := hA
  exact ⟨c', Ds, s, ⟨he'.size, fun j => h2 c' s.le.ρ j _ (he'.slot j), he'.glob⟩, hd, hD, hf⟩

theorem CodeOK.joinO {code : Code} {ev : Env → M XE} (h : CodeOK false true P ρ n code ev) (o : Option (List Nat)) : CodeOK false true P ρ n code fun env => joinO o (ev env) := by
  cases o with
  | none => exact h
  | some ks => exact h.join ks

theorem evCoC_ok (hM : P.follows .mixedOrders = true) {cf : FuncId → List V → M V} (hcf : CallsOK P ρ cf) (js : List (Nat × List Nat)) (ks : List Nat) (it : Nat) : ∀ (code : Code), codeRegs code = true → CodeOK false true P ρ n code (evCoC js ks code P cf it n).run ∧ FrOK false true P ρ n code (evCoC js ks code P cf it n).fr
  | .skip, _ => by
    refine ⟨?_, FrOK.none fun _ => rfl⟩
    intro c m m' w p q env r a hρ hm hp he h z hz Q hQ
    obtain ⟨rfl, rfl, rfl⟩ := M.gives_pure (show (M.pure (⟨.normal, env⟩ : XE)).gives c.ρ m p r m' q from h)
    exact wpIn_skip (hQ a w hp (After.M ⟨c, Step.refl hm, he, rfl⟩))
  | .label k, _ => by
    refine ⟨?_, fun l => ?_⟩
    · intro c m m' w p q env r a hρ hm hp he h z hz Q hQ
      obtain ⟨rfl, rfl, rfl⟩ := M.gives_pure (show (M.pure (⟨.normal, env⟩ : XE)).gives c.ρ m p r m' q from h)
      exact wpIn_label (hQ a w hp (After.M ⟨c, Step.refl hm, he, rfl⟩))
    · show match selB (Nat.beq k l) (some fun env => M.pure (⟨.normal, env⟩ : XE)) Option.none with | some f => _ | Option.none => _
      cases hb : Nat.beq k l with
      | true =>
        rw [beq_iff] at hb
        subst hb
        refine ⟨.skip, by simp [findLabel], ?_⟩
        intro c m m' w p q env r a hρ hm hp he h z hz Q hQ
        obtain ⟨rfl, rfl, rfl⟩ := M.gives_pure (show (M.pure (⟨.normal, env⟩ : XE)).gives c.ρ m p r m' q from h)
        exact wpIn_skip (hQ a w hp (After.M ⟨c, Step.refl hm, he, rfl⟩))
      | false =>
        rw [beq_false] at hb
        show findLabel (.label k) l = Option.none
        simp [findLabel, hb]
  | .exit id, _ => by
    refine ⟨?_, FrOK.none fun _ => rfl⟩
    intro c m m' w p q env r a hρ hm hp he h z hz Q hQ
    obtain ⟨rfl, rfl, rfl⟩ := M.gives_pure (show (M.pure (⟨.exit id, env⟩ : XE)).gives c.ρ m p r m' q from h)
    exact wpIn_exit (hQ a w hp (After.M ⟨c, Step.refl hm, he, rfl⟩))
  | .goto l, _ => by
    refine ⟨?_, FrOK.none fun _ => rfl⟩
    intro c m m' w p q env r a hρ hm hp he h z hz Q hQ
    obtain ⟨rfl, rfl, rfl⟩ := M.gives_pure (show (M.pure (⟨.goto l, env⟩ : XE)).gives c.ρ m p r m' q from h)
    exact wpIn_goto (hQ a w hp (After.M ⟨c, Step.refl hm, he, rfl⟩))
  | .ret, _ => by
    refine ⟨?_, FrOK.none fun _ => rfl⟩
    intro c m m' w p q env r a hρ hm hp he h z hz Q hQ
    obtain ⟨rfl, rfl, rfl⟩ := M.gives_pure (show (M.pure (⟨.ret, env⟩ : XE)).gives c.ρ m p r m' q from h)
    exact wpIn_ret (hQ a w hp (After.M ⟨c, Step.refl hm, he, rfl⟩))
  | .seq x y, hR => by
    obtain ⟨hR1, hR2⟩ := Bool.and_eq_true_iff.1 (show (codeRegs x && codeRegs y) = true from hR)
    obtain ⟨hx, fx⟩ := evCoC_ok hM hcf js ks it x hR1
    obtain ⟨hy, fy⟩ := evCoC_ok hM hcf js ks it y hR2
    refine ⟨(hx.seq hy).joinO (joinOf js y), fun l => ?_⟩
    have gx := fx l
    have gy := fy l
    show match (Option.rec ((evCoC js ks y P cf it n).fr l) (fun f => some (seqRun f (evCoC js ks y P cf it n).run)) ((evCoC js ks x P cf it n).fr l) : Option (Env → M XE)) with | some f => _ | Option.none => _
    cases hf : (evCoC js ks x P cf it n).fr l with
    | some f =>
      rw [hf] at gx
      obtain ⟨rest, h1, h2⟩ := gx
      exact ⟨.seq rest y, by simp [findLabel, h1], h2.seq hy⟩
    | none =>
      rw [hf] at gx
      have gx : findLabel x l = Option.none := gx
      show match (evCoC js ks y P cf it n).fr l with | some f => _ | Option.none => _
      cases hg : (evCoC js ks y P cf it n).fr l with
      | some f =>
        rw [hg] at gy
        obtain ⟨rest, h1, h2⟩ := gy
        exact ⟨rest, by simp [findLabel, gx, h1], h2⟩
      | none =>
        rw [hg] at gy
        have gy : findLabel y l = Option.none := gy
        show findLabel (.seq x y) l = Option.none
        simp [findLabel, gx, gy]
  | .cond k x y, hR => by
    obtain ⟨hR1, hR2⟩ := Bool.and_eq_true_iff.1 (show (codeRegs x && codeRegs y) = true from hR)
    have hx := (evCoC_ok hM hcf js ks it x hR1).1
    have hy := (evCoC_ok hM hcf js ks it y hR2).1
    refine ⟨CodeOK.join (ev := fun env => (condV (opd k env)).thn fun b => (Bool.rec ((evCoC js ks y P cf it n).run env) ((evCoC js ks x P cf it n).run env) b : M XE)) ?_ ks, FrOK.none fun _ => rfl⟩
    intro c m m' w p q env r a hρ hm hp he h z hz Q hQ
    obtain ⟨b, p1, h1, h2⟩ := R.gives_thn h
    obtain ⟨h3, h4⟩ := condV_gives hp (opd_ok he k) h1
    cases b with
    | false => exact wpIn_cond_false h4 (hy hρ hm h3 he h2 z hz Q hQ)
    | true => exact wpIn_cond_true h4 (hx hρ hm h3 he h2 z hz Q hQ)
  | .block id x, hR => by
    have hx := (evCoC_ok hM hcf js ks it x hR).1
    refine ⟨CodeOK.join (ev := fun env => ((evCoC js ks x P cf it n).run env).bnd (blockX id)) ?_ ks, FrOK.none fun _ => rfl⟩
    intro c m m' w p q env r a hρ hm hp he h z hz Q hQ
    obtain ⟨r0, m1, p1, h1, h2⟩ := M.gives_bnd h
    refine wpIn_block (hx hρ hm hp he h1 z hz _ fun a1 w1 hp1 hA => ?_)
    obtain ⟨u, env1⟩ := r0
    cases u with
    | normal =>
      obtain ⟨rfl, rfl, rfl⟩ := M.gives_pure (show (M.pure (⟨.normal, env1⟩ : XE)).gives c.ρ m1 p1 r m' q from h2)
      exact hQ a1 w1 hp1 hA
    | ret =>
      obtain ⟨rfl, rfl, rfl⟩ := M.gives_pure (show (M.pure (⟨.ret, env1⟩ : XE)).gives c.ρ m1 p1 r m' q from h2)
      exact hQ a1 w1 hp1 hA
    | goto l =>
      obtain ⟨rfl, rfl, rfl⟩ := M.gives_pure (show (M.pure (⟨.goto l, env1⟩ : XE)).gives c.ρ m1 p1 r m' q from h2)
      exact hQ a1 w1 hp1 hA
    | exit i =>
      obtain ⟨rfl, rfl, rfl⟩ := M.gives_pure (show (M.pure (⟨selB (Nat.beq i id) .normal (.exit i), env1⟩ : XE)).gives c.ρ m1 p1 r m' q from h2)
      have hq := hQ a1 w1 hp1 hA
      show Exit.inBlock id Q (.exit i) a1 w1
      cases hb : Nat.beq i id with
      | true =>
        rw [hb] at hq
        rw [beq_iff] at hb; subst hb
        simp only [Exit.inBlock, if_true]; exact hq
      | false =>
        rw [hb] at hq
        rw [beq_false] at hb
        simp only [Exit.inBlock, if_neg hb]; exact hq
  | .loop x, hR => by
    have hx := (evCoC_ok hM hcf js ks it x hR).1
    refine ⟨?_, FrOK.none fun _ => rfl⟩
    intro c m m' w p q env r a hρ hm hp he h z hz Q hQ
    obtain ⟨r0, m1, p1, h1, h2⟩ := M.gives_bnd (show ((iter (fun env => joinXM ks ((evCoC js ks x P cf it n).run env)) it env).bnd loopX).gives c.ρ m p r m' q from h)
    refine RndWp.loop (iter_ok (hx.join ks) it hρ hm hp he h1 z hz Q fun a1 w1 hp1 hA => ?_)
    obtain ⟨u, env1⟩ := r0
    cases u with
    | none => exact (M.gives_fail (s := "loop more rounds") h2).elim
    | some u =>
      obtain ⟨rfl, rfl, rfl⟩ := M.gives_pure (show (M.pure (⟨u, env1⟩ : XE)).gives c.ρ m1 p1 r m' q from h2)
      exact hQ a1 w1 hp1 hA
  | .scope x, hR => by
    obtain ⟨hx, fx⟩ := evCoC_ok hM hcf js ks it x hR
    refine ⟨?_, FrOK.none fun _ => rfl⟩
    intro c m m' w p q env r a hρ hm hp he h z hz Q hQ
    obtain ⟨r0, m1, p1, h1, h2⟩ := M.gives_bnd (show (((evCoC js ks x P cf it n).run env).bnd (scopeX (evCoC js ks x P cf it n).fr 6)).gives c.ρ m p r m' q from h)
    exact ScopeWp.scope (ScopeWp.of_wp (hx hρ hm hp he h1 z hz _ fun a1 w1 hp1 hA => scopeX_ok fx hz 6 hρ hm hp1 hA h2 Q hQ))
  | .region id ops d, hR => evC_ok (rd := false) (fl := true) hM hcf it (.region id ops d) hR fun _ => rfl
  | .rangeFunc _ _ _ _, _ => ⟨by intro c m m' w p q env r a hρ hm hp he h; exact (M.gives_fail (s := "code") h).elim, FrOK.none fun _ => rfl⟩
  | .refuse _, _ => ⟨by intro c m m' w p q env r a hρ hm hp he h; exact (M.gives_fail (s := "code") h).elim, FrOK.none fun _ => rfl⟩

theorem evCo_ok (hM : P.follows .mixedOrders = true) {cf : FuncId → List V → M V} (hcf : CallsOK P ρ cf) (js : List (Nat × List Nat)) (ks : List Nat) (it : Nat) (code : Code) (hR : codeRegs code = true) : CodeOK false true P ρ n code (evCo js ks code P cf it n) := (evCoC_ok hM hcf js ks it code hR).1

theorem evOneC_ok (hP : Plain P) (js : List (Nat × List Nat)) (ks : List Nat) (it : Nat) {cf : FuncId → List V → M V} (hcf : CallsOK P ρ cf) (f : FuncId) : FnOK P ρ f (evOneC js ks P cf it f) := by
    intro l c m m' w p q v args hρ hm hp hg hl h
    have h : (Option.rec (M.fail "no such function") (fun fn => (Option.rec (M.fail fn.name) (fun co => (evCo js ks co P cf it (slots fn.ntmps l) (setArgs l 0 env0)).bnd (endX P fn)) fn.body : M V)) P.funcs[f]? : M V).gives c.ρ m p v m' q := h
    cases hf : P.funcs[f]? with
    | none => rw [hf] at h; exact (M.gives_fail (s := "no such function") h).elim
    | some fn =>
      rw [hf] at h
      have h : (Option.rec (M.fail fn.name) (fun co => (evCo js ks co P cf it (slots fn.ntmps l) (setArgs l 0 env0)).bnd (endX P fn)) fn.body : M V).gives c.ρ m p v m' q := h
      cases hb : fn.body with
      | none => rw [hb] at h; exact (M.gives_fail (s := fn.name) h).elim
      | some co =>
        rw [hb] at h
        obtain ⟨r, m1, p1, h1, h2⟩ := M.gives_bnd (show ((evCo js ks co P cf it (slots fn.ntmps l) (setArgs l 0 env0)).bnd (endX P fn)).gives c.ρ m p v m' q from h)
        refine ⟨⟨fn, hf, by rw [hb]; rfl, by have := hP.fns f fn hf; simp [goodFn] at this; simpa using this.1⟩, calls_of_wp hf hb ?_⟩
        have hR : codeRegs co = true := by have := hP.fns f fn hf; simp [goodFn, hb] at this; exact this.2
        refine (wpIn_wide (n := 0)).1 (evCo_ok hP.mixed hcf js ks it co hR hρ hm hp (env_ok hg fn.ntmps hl) h1 none (fun _ => rfl) _ fun a w' hq hA => ?_)
        obtain ⟨c1, s1, he1, hd⟩ := hA.plain
        obtain ⟨x, env1⟩ := r
        have hr := s1.le.ρ
        have key : (∀ id, x ≠ .exit id ∧ x ≠ .goto id) → ((resV fn.results.toList P env1).thn fun l => M.pure (oneV l)).gives c.ρ m1 p1 v m' q →
            a.defers = [] ∧ ∃ y, (results fn a.tmps).run P w' = .ok y w' ∧ ∃ c' z, Ending.returned y = .returned z ∧ Step c m w c' m' w' ∧ VR c' v z ∧ PcR c.ρ q := by
          intro _ h3
          obtain ⟨rs, p2, h4, h5⟩ := R.gives_thn h3
          rw [← hr] at h4
          obtain ⟨rfl, z, h6, h7⟩ := results_ok s1.rel he1 (by rw [hr]; exact hq) h4
          obtain ⟨rfl, rfl, rfl⟩ := M.gives_pure h5
          exact ⟨hd, z, h6, c1, z, rfl, s1, h7, hq⟩
        cases x with
        | exit id => exact (M.gives_fail (s := "an exit") h2).elim
        | goto l => exact (M.gives_fail (s := "a goto") h2).elim
        | normal => exact key (fun _ => ⟨nofun, nofun⟩) h2
        | ret => exact key (fun _ => ⟨nofun, nofun⟩) h2

theorem kwCo_ok (hP : Plain P) {cf : FuncId → List V → M V} (hcf : CallsOK P ρ cf) {it : Nat} {f : FuncId} {js : List (Nat × List Nat)} {ks : List Nat} {r : Kw} (hr : KwOK P ρ r) : KwOK P ρ (kwCo P cf it f js ks r) := by
  intro g tr h ev hev
  have h : selB (Nat.beq g f) (some fun _ => evOneC js ks P cf it f) (r g) = some tr := h
  cases hb : Nat.beq g f with
  | true =>
    rw [hb] at h
    have h := Option.some.inj (show (some fun _ => evOneC js ks P cf it f) = some tr from h)
    subst h
    rw [beq_iff] at hb
    subst hb
    exact evOneC_ok hP js ks it hcf g
  | false => rw [hb] at h; exact hr g tr h ev hev
end ops

end Go.Sy

/-
  What is proved here: a function of one byte, as a table.
  Conditions: none.
-/
namespace Go.Sy
open Go.RowKit (Below)

/-- the run at the number i gives the table's number -/
noncomputable def tabAt (k : IntKind) (l : List Int) (ev : List V → M V) (i : Nat) : Bool := (T.rec (motive := fun _ => Bool) (fun r => onInt r.v (fun k' e => andB (Nat.beq (kindNo k) (kindNo k')) (onN e (fun z => eqZ z (nthZ l i)) false)) false) (fun _ _ _ _ _ => false) (fun _ => false) (ev [.int .u8 (.n (.ofNat i))] (mem0 []) pc0))

noncomputable def tabAll (k : IntKind) (l : List Int) (ev : List V → M V) (n : Nat) : Bool := (Nat.rec (motive := fun _ => Bool) (true) (fun i ih => (Bool.rec (motive := fun _ => Bool) (false) (ih) (tabAt k l ev i))) (n))

noncomputable def inRng (lo hi : Int) (l : List Int) : Bool := allL (fun z => andB (leZ lo z) (leZ z hi)) l

noncomputable def knTab (k : IntKind) (l : List Int) (lo hi : Int) (args : List V) : M V := (List.rec (motive := fun _ => M V) (M.fail "arguments") (fun v r _ => (List.rec (motive := fun _ => M V) (onInt v (fun k' e => selB (Nat.beq (kindNo k') 4) (M.pure (.int k (.tab l lo hi e))) (M.fail "arguments")) (M.fail "arguments")) (fun _ _ _ => M.fail "arguments") (r))) (args))

noncomputable def kwTab (f : FuncId) (k : IntKind) (l : List Int) (lo hi : Int) (r : Kw) : Kw := fun i => selB (Nat.beq i f) (some fun _ => knTab k l lo hi) (r i)

theorem tabAll_ok {k : IntKind} {l : List Int} {ev : List V → M V} : ∀ {n : Nat}, tabAll k l ev n = true → ∀ i, i < n → tabAt k l ev i = true
  | n + 1, h, i, hi => by
    have h : (Bool.rec false (tabAll k l ev n) (tabAt k l ev n) : Bool) = true := h
    cases ht : tabAt k l ev n with
    | false => rw [ht] at h; simp at h
    | true =>
      rw [ht] at h
      by_cases hin : i = n
      · subst hin; exact ht
      · exact tabAll_ok h i (by omega)

theorem nthZ_in {lo hi : Int} : ∀ {l : List Int} {i : Nat}, inRng lo hi l = true → i < l.length → lo ≤ nthZ l i ∧ nthZ l i ≤ hi
  | a :: l, 0, h, _ => by
    have := allL_ok h a (.head _)
    obtain ⟨h1, h2⟩ := andB_ok this
    rw [leZ_iff] at h1 h2
    exact ⟨h1, h2⟩
  | a :: l, i + 1, h, hi' => nthZ_in (l := l) (i := i) (by
      have h : (Bool.rec false (inRng lo hi l) (andB (leZ lo a) (leZ a hi)) : Bool) = true := h
      cases hb : andB (leZ lo a) (leZ a hi) with
      | false => rw [hb] at h; simp at h
      | true => rw [hb] at h; exact h) (by simpa using hi')

theorem tab_calls {P : Program} (hP : Plain P) {it d : Nat} {f : FuncId} {k : IntKind} {l : List Int} (h : tabAll k l (evFn P kw0 it d f) 256 = true) (w : World) {i : Nat} (hi : i < 256) (hne : f ≠ yId) :
    Calls P f #[.int .u8 (i : Int)] w fun e w' => e = .returned (.int k (nthZ l i)) ∧ Below w.heap.size w w' := by
  have ht := tabAll_ok h i hi
  unfold tabAt at ht
  cases hr : evFn P kw0 it d f [.int .u8 (.n (.ofNat i))] (mem0 []) pc0 with
  | br => rw [hr] at ht; exact absurd (show false = true from ht) (by simp)
  | fail => rw [hr] at ht; exact absurd (show false = true from ht) (by simp)
  | ret r =>
    rw [hr] at ht
    have ht : onInt r.v (fun k' e => andB (Nat.beq (kindNo k) (kindNo k')) (onN e (fun z => eqZ z (nthZ l i)) false)) false = true := ht
    obtain ⟨v, m, q⟩ := r
    rcases onInt_cases v (fun k' e => andB (Nat.beq (kindNo k) (kindNo k')) (onN e (fun z => eqZ z (nthZ l i)) false)) false with ⟨k', e, rfl, he⟩ | he <;> rw [he] at ht
    · obtain ⟨h1, h2⟩ := andB_ok ht
      have := kindNo_inj h1
      subst this
      cases e with
      | n z =>
        have h2 : z = nthZ l i := (eqZ_iff _ _).1 (show eqZ z (nthZ l i) = true from h2)
        have ho : (evFn P kw0 it d f [.int .u8 (.n (.ofNat i))] (mem0 []) pc0).out (fun _ => 0) = some ⟨.int k (.n z), m, q⟩ := by rw [hr]; rfl
        have hv : VRs (cx0 (fun _ => 0) fun _ => 0) [.int .u8 (.n (.ofNat i))] (#[Value.int .u8 (i : Int)]).toList :=
          VRs.cons (VR.int.2 ⟨rfl, by show kMin .u8 ≤ (i : Int); simp [kMin, IntKind.signed], by show (i : Int) ≤ kMax .u8; simp [kMax, limN]; omega⟩) VRs.nil
        refine (evFn_call hP kw0_ok it d hne _ (cx0 (fun _ => 0) fun _ => 0) _ m w pc0 q _ _ rfl (mem0_ok (g := []) fun _ _ hx => nomatch hx) pc0_ok glob0 hv ho).2.mono fun e w' hR => ?_
        obtain ⟨c', y, rfl, s, hz, _⟩ := hR
        rw [VR.int] at hz
        rw [hz.1]
        exact ⟨by show Ending.returned (.int k z) = _; rw [h2], s.below mem0_wr⟩
      | _ => exact absurd (show false = true from h2) (by simp)
    · simp at ht

theorem kwTab_ok {P : Program} (hP : Plain P) {ρ : Nat → Int} {it d : Nat} {f : FuncId} {k : IntKind} {l : List Int} {lo hi : Int} {r : Kw} (hf : Callable P f) (hr : KwOK P ρ r) (h : tabAll k l (evFn P kw0 it d f) 256 = true)
    (hl : (Nat.beq l.length 256 && inRng lo hi l && leZ (kMin k) lo && leZ hi (kMax k)) = true) (hne : f ≠ yId := by decide) : KwOK P ρ (kwTab f k l lo hi r) := by
  intro i tr hs ev hev args' c m m' w p q v args hc hm hp hg hla hk
  have hs : selB (Nat.beq i f) (some fun _ => knTab k l lo hi) (r i) = some tr := hs
  cases hi' : Nat.beq i f with
  | false =>
    rw [hi'] at hs
    exact hr i tr hs ev hev args' c m m' w p q v args hc hm hp hg hla hk
  | true =>
    rw [hi'] at hs
    have hs : (some fun _ => knTab k l lo hi) = some tr := hs
    simp at hs; subst hs
    rw [beq_iff] at hi'; subst hi'
    simp only [Bool.and_eq_true, leZ_iff, beq_iff] at hl
    obtain ⟨⟨⟨l1, l2⟩, l3⟩, l4⟩ := hl
    cases args' with
    | nil => exact (M.gives_fail (s := "arguments") hk).elim
    | cons x t =>
      cases t with
      | cons y t => exact (M.gives_fail (s := "arguments") hk).elim
      | nil =>
        have hk : (onInt x (fun k' e => selB (Nat.beq (kindNo k') 4) (M.pure (V.int k (.tab l lo hi e))) (M.fail "arguments")) (M.fail "arguments")).gives c.ρ m p v m' q := hk
        obtain ⟨k', e, rfl, h1⟩ := onIntM_gives hk
        obtain ⟨h2, h3⟩ := M.gives_if h1
        obtain ⟨rfl, rfl, rfl⟩ := M.gives_pure h3
        have hk4 : k' = .u8 := kindNo_inj (k' := .u8) h2
        subst hk4
        obtain ⟨X, ys, he, hx, hys⟩ := VRs.cons_iff.1 hla
        rw [VRs.nil_iff] at hys; subst hys
        obtain ⟨rfl, b1, b2⟩ := VR.int.1 hx
        have b1 : 0 ≤ e.den c.ρ := by simpa [kMin, IntKind.signed] using b1
        have b2 : e.den c.ρ ≤ 255 := by simpa [kMax, limN] using b2
        obtain ⟨j, hj⟩ := Int.eq_ofNat_of_zero_le b1
        have hargs : args = #[.int .u8 (j : Int)] := by
          rw [hj] at he
          apply Array.ext'
          simpa using he
        subst hargs
        have hjl : j < l.length := by omega
        obtain ⟨z1, z2⟩ := nthZ_in l2 hjl
        refine ⟨hf, (tab_calls hP h w (i := j) (by omega) hne).mono fun e' w' hR => ?_⟩
        obtain ⟨rfl, hb⟩ := hR
        have hden : (E.tab l lo hi e).den c.ρ = nthZ l j := by
          show clampZ lo hi (nthZ l (e.den c.ρ).toNat) = _
          rw [hj, Int.toNat_natCast]; exact clampZ_eq z1 z2
        exact ⟨c, _, rfl, Step.of_below hm hb, VR.int.2 ⟨by rw [hden], by rw [hden]; omega, by rw [hden]; omega⟩, hp⟩

end Go.Sy

/-
  What is proved here: a law's code in pieces: from a state of the evaluator on through a piece, and through a loop with an invariant.
  Conditions: none.
-/
namespace Go.Sy
open Go.RowKit (Below)

/-- the frame is in the evaluator's state (m, env, p), its variables being such that 'J'; what was there at 'W0' is as it was -/
def At (W0 : World) (J : (Nat → Int) → Prop) (m : Mem) (n : Nat) (env : Env) (p : Pc) (a : Act) (w : World) : Prop :=
  ∃ c : Cx, J c.ρ ∧ MemR c m w ∧ PcR c.ρ p ∧ EnvR c n env a ∧ a.defers = [] ∧ Below W0.heap.size W0 w ∧ ∀ b, Wr c m b → W0.heap.size ≤ b

theorem below_step {W0 w w' : World} {c c' : Cx} {m m' : Mem} (hb : Below W0.heap.size W0 w) (hw : ∀ b, Wr c m b → W0.heap.size ≤ b) (s : Step c m w c' m' w') : Below W0.heap.size W0 w' ∧ ∀ b, Wr c' m' b → W0.heap.size ≤ b :=
  ⟨hb.trans ⟨s.os, s.tape, s.output, s.size, fun k hk => s.frame k (Nat.lt_of_lt_of_le hk hb.size) fun h => by have := hw k h; omega⟩,
   fun b h => (s.wr b h).elim (hw b) (fun h => Nat.le_trans hb.size h)⟩

section piece
variable {P : Program} {cf : FuncId → List V → M V} {W0 : World} {J : (Nat → Int) → Prop} {m : Mem} {n : Nat} {env : Env} {p : Pc} {a : Act} {w : World} {Q : Exit → Act → World → Prop}

/-- a piece of code -/
theorem piece_ok (hM : P.follows .mixedOrders = true) (hcf : ∀ ρ, CallsOK P ρ cf) {co : Code} (hR : codeFlat co = true) {it : Nat} (hA : At W0 J m n env p a w)
    (h : ∀ ρ, J ρ → PcR ρ p → ∃ r m' q, (evCode co P cf it n env m p).out ρ = some ⟨r, m', q⟩ ∧ ∀ a' w', At W0 (fun ρ' => ρ' = ρ) m' n r.env q a' w' → Q (exitOf r.x) a' w') : co.wp P Q a w := by
  obtain ⟨c, hJ, hm, hp, he, hd, hb, hw⟩ := hA
  obtain ⟨r, m', q, ho, hq⟩ := h c.ρ hJ hp
  refine evCode_ok hM (hcf c.ρ) it co hR rfl hm hp he ho Q fun a' w' hpq hAf => ?_
  obtain ⟨c', s, he', hd'⟩ := hAf
  obtain ⟨h1, h2⟩ := below_step hb hw s
  exact hq a' w' ⟨c', s.le.ρ, s.rel, by rw [s.le.ρ]; exact hpq, he', hd'.trans hd, h1, h2⟩

/-- into a pattern -/
theorem fit_ok {pt : Pt} {env' : Env} {m' : Mem} {q p0 : Pc} {ρ : Nat → Int} {s : List G} (hA : At W0 (fun ρ' => ρ' = ρ) m' n env' q a w) (hf : fitSt pt env m env' m' = some s)
    (hJ : PcR ρ q → PcR (sub pt.base s ρ) p0 ∧ J (sub pt.base s ρ)) : At W0 J (genMem pt m) n (genEnv pt env) p0 a w := by
  obtain ⟨c, rfl, hm, hp, he, hd, hb, hw⟩ := hA
  obtain ⟨_, h1, h2, h3⟩ := fitSt_ok hf hm he
  obtain ⟨h4, h5⟩ := hJ hp
  exact ⟨_, h5, h1, h4, h2, hd, hb, fun b h => hw b (h3 b h)⟩

theorem At.mono {J' : (Nat → Int) → Prop} (h : At W0 J m n env p a w) (hJ : ∀ ρ, J ρ → PcR ρ p → J' ρ) : At W0 J' m n env p a w := by
  obtain ⟨c, h1, h2, h3, h4⟩ := h
  exact ⟨c, hJ _ h1 h3, h2, h3, h4⟩

/-- a loop -/
theorem loop_ok (hM : P.follows .mixedOrders = true) (hcf : ∀ ρ, CallsOK P ρ cf) {co : Code} (hR : codeFlat co = true) {it : Nat} (μ : (Nat → Int) → Nat)
    (h : ∀ ρ, J ρ → PcR ρ p → ∃ r m' q, (evCode co P cf it n env m p).out ρ = some ⟨r, m', q⟩ ∧ ∀ a' w', At W0 (fun ρ' => ρ' = ρ) m' n r.env q a' w' →
      match r.x with
      | .normal => At W0 (fun ρ' => J ρ' ∧ μ ρ' < μ ρ) m n env p a' w'
      | x => Q (exitOf x) a' w')
    (hA : At W0 J m n env p a w) : (Code.loop co).wp P Q a w := by
  refine RoundWp.loop ?_
  have key : ∀ k a w, At W0 (fun ρ => J ρ ∧ μ ρ < k) m n env p a w → RoundWp P co Q a w := by
    intro k
    induction k with
    | zero =>
      intro a w hA
      obtain ⟨c, hJ, _⟩ := hA
      exact absurd hJ.2 (by omega)
    | succ k ih =>
      intro a w hA
      refine RoundWp.round (piece_ok (it := it) hM hcf hR hA fun ρ hJ hp => ?_)
      obtain ⟨r, m', q, ho, hq⟩ := h ρ hJ.1 hp
      refine ⟨r, m', q, ho, fun a' w' hA' => ?_⟩
      have := hq a' w' hA'
      obtain ⟨x, e'⟩ := r
      cases x with
      | normal => exact ih a' w' (this.mono fun ρ' hJ' _ => ⟨hJ'.1, by have := hJ'.2; have := hJ.2; omega⟩)
      | exit id => exact this
      | ret => exact this
      | goto l => exact this
  obtain ⟨c, hJ, hrest⟩ := hA
  exact key (μ c.ρ + 1) a w ⟨c, ⟨hJ, by omega⟩, hrest⟩
end piece

/-! ### what is left to show, leaf by leaf -/

/-- a leaf: the path, what it must do, and with what -/
structure Vc where
  q : Pc
  tag : Nat
  s : List G

abbrev Tgt : Type := X → Env → Mem → Option (Nat × List G)

noncomputable def vcs (tgt : Tgt) (t : T (Rs XE)) : Option (List Vc) := (T.rec (motive := fun _ => Option (List Vc)) (fun r => onXE r.v fun x env => (Option.rec (motive := fun _ => Option (List Vc)) (none) (fun g => some [⟨r.p, g.1, g.2⟩]) (tgt x env r.m))) (fun _ _ _ ix iy => (Option.rec (motive := fun _ => Option (List Vc)) (none) (fun a => (Option.rec (motive := fun _ => Option (List Vc)) (none) (fun b => some (a ++ b)) (iy))) (ix))) (fun _ => none) (t))

theorem vcs_out {tgt : Tgt} (ρ : Nat → Int) : ∀ {t : T (Rs XE)} {l : List Vc}, vcs tgt t = some l → ∃ r m q tag s, t.out ρ = some ⟨r, m, q⟩ ∧ tgt r.x r.env m = some (tag, s) ∧ ⟨q, tag, s⟩ ∈ l
  | .ret ⟨⟨x, env⟩, m, q⟩, l, h => by
    have h : (Option.rec none (fun g => some [⟨q, g.1, g.2⟩]) (tgt x env m) : Option (List Vc)) = some l := h
    cases ht : tgt x env m with
    | none => rw [ht] at h; exact absurd h (by simp)
    | some g =>
      rw [ht] at h
      have h : some [(⟨q, g.1, g.2⟩ : Vc)] = some l := h
      simp at h; subst h
      exact ⟨⟨x, env⟩, m, q, g.1, g.2, rfl, ht, .head _⟩
  | .br c x y, l, h => by
    have h : (Option.rec none (fun a => Option.rec none (fun b => some (a ++ b)) (vcs tgt y)) (vcs tgt x) : Option (List Vc)) = some l := h
    cases hx : vcs tgt x with
    | none => rw [hx] at h; exact absurd h (by simp)
    | some la =>
      rw [hx] at h
      cases hy : vcs tgt y with
      | none => rw [hy] at h; exact absurd (show none = some l from h) (by simp)
      | some lb =>
        rw [hy] at h
        have h : some (la ++ lb) = some l := h
        simp at h; subst h
        simp only [T.out]
        cases c.den ρ with
        | true =>
          obtain ⟨r, m, q, tag, s, h1, h2, h3⟩ := vcs_out ρ hx
          exact ⟨r, m, q, tag, s, by simpa using h1, h2, List.mem_append_left _ h3⟩
        | false =>
          obtain ⟨r, m, q, tag, s, h1, h2, h3⟩ := vcs_out ρ hy
          exact ⟨r, m, q, tag, s, by simpa using h1, h2, List.mem_append_right _ h3⟩
  | .fail _, l, h => absurd (show none = some l from h) (by simp)

/-- the value returned: a bool in a slot -/
noncomputable def boolAt (env : Env) (t : Nat) : Option (Nat × List G) := onBool (env t) (fun b => some (9, [.ofB b])) none

/-- the law returns: its slot t holds true -/
theorem ret_ok {P : Program} {fn : Func} {t : Nat} (hr : fn.results = #[.tmp t]) {W0 : World} {m : Mem} {n : Nat} {env : Env} {q : Pc} {a : Act} {w : World} {ρ : Nat → Int} {tag : Nat} {s : List G} {x : X} (hx : x = .ret ∨ x = .normal)
    (hA : At W0 (fun ρ' => ρ' = ρ) m n env q a w) (hb : boolAt env t = some (tag, s)) (hv : PcR ρ q → ∀ g ∈ s, g.den ρ = 1) : bodyPost P fn (fun e w' => e = .returned (.bool true) ∧ Below W0.heap.size W0 w') (exitOf x) a w := by
  obtain ⟨c, rfl, hm, hp, he, hd, hbl, _⟩ := hA
  rcases onBool_cases (env t) (fun b => some (9, [G.ofB b])) none with ⟨b, e, hb'⟩ | hb'
  · have hb : some (9, [G.ofB b]) = some (tag, s) := by rw [← hb']; exact hb
    simp at hb
    obtain ⟨_, rfl⟩ := hb
    have h1 := hv hp (.ofB b) (.head _)
    have h2 : b.den c.ρ = true := by
      cases hb2 : b.den c.ρ with
      | true => rfl
      | false => simp [G.den, hb2] at h1
    have hs := he.slot t
    rw [e, VR.bool, h2] at hs
    have key : a.defers = [] ∧ ∃ v, (results fn a.tmps).run P w = .ok v w ∧ (Ending.returned v = .returned (.bool true) ∧ Below W0.heap.size W0 w) :=
      ⟨hd, _, results_tmp hr a.tmps P w, by rw [hs], hbl⟩
    rcases hx with rfl | rfl <;> exact key
  · have hb : none = some (tag, s) := by rw [← hb']; exact hb
    exact absurd hb (by simp)

/-- the law's call, out of its code -/
theorem law_code {P : Program} {f : FuncId} {fn : Func} {co : Code} {g : List (Nat × List V)} {shs : List Sh} (hsh : fn.params.toList.mapM (shapeOf P) = some shs) (hf : P.funcs[f]? = some fn) (hb : fn.body = some co)
    {H : Type} {enc : TypeId × Value → H} {W : World} {base : Nat} {args : Array Value} {ds : List (DataW H)} {ps : List MemPlace} (hval : ∀ (j : Nat) t v, fn.params[j]? = some t → args[j]? = some v → Value.okWide P W .any base t v)
    (hA : DataW.TrodAll enc P W 0 (fun _ => true) true fn.params.toList args.toList ds ps) (hw : LaidW W g)
    (h : ∀ a w, At W (fun _ => True) (mem0 g) (slots fn.ntmps (argsV shs 0)) (setArgs (argsV shs 0) 0 env0) ⟨[], argsRng shs⟩ a w → co.wp P (bodyPost P fn (LawEnd W)) a w) : Calls P f args W (LawEnd W) := by
  obtain ⟨bs, hw⟩ := hw
  obtain ⟨cells, h1, h2⟩ := args_open hA (fun j t v ht hv => hval j t v (by simpa using ht) (by simpa using hv)) hsh
  let ρ : Nat → Int := fun j => valOf (cells.getD j undef)
  have h3 : VRs (cx0 bs ρ) (argsV shs 0) args.toList := h2 (cx0 bs ρ) 0 fun j _ => by show valOf (cells.getD (0 + j) undef) = _; rw [Nat.zero_add]
  have hp : PcR ρ ⟨[], argsRng shs⟩ := ⟨fun c hc => by simp at hc, fun i lo hi hr => by
    have hr : (argsRng shs)[i]? = some (lo, hi) := hr
    rw [argsRng_eq] at hr
    exact rng_open h1 i lo hi hr⟩
  refine calls_of_wp hf hb (h _ _ ⟨cx0 bs ρ, trivial, mem0_ok hw, hp, env_ok glob0 fn.ntmps h3, rfl, Below.refl _ _, fun b hb => absurd hb (mem0_wr b)⟩)

end Go.Sy

/-
  What is proved here: a code up to a place inside it.
  Conditions: none.
-/
namespace Go.Sy
open Go.RowKit (Below)

/-- a step into a code: the first, or the second of two; into a block -/
inductive Dir where
  | l
  | r
  | b

def cL : Code → Code
  | .seq a _ => a
  | _ => .skip
def cR : Code → Code
  | .seq _ b => b
  | _ => .skip
def cB : Code → Code
  | .block _ a => a
  | _ => .skip
def cId : Code → Nat
  | .block id _ => id
  | _ => 0
def cLoop : Code → Code
  | .loop a => a
  | _ => .skip
def isSeq : Code → Bool
  | .seq _ _ => true
  | _ => false
def isBlock : Code → Bool
  | .block _ _ => true
  | _ => false

/-- the place -/
def place : List Dir → Code → Code
  | [], c => c
  | .l :: d, c => place d (cL c)
  | .r :: d, c => place d (cR c)
  | .b :: d, c => place d (cB c)

/-- what is asked at the place -/
def placeWp (P : Program) : List Dir → Code → (Exit → Act → World → Prop) → Act → World → Prop
  | [], c, Q => c.wp P Q
  | .l :: d, c, Q => placeWp P d (cL c) (Exit.then ((cR c).wp P Q) Q)
  | .r :: d, c, Q => placeWp P d (cR c) Q
  | .b :: d, c, Q => placeWp P d (cB c) (Exit.inBlock (cId c) Q)

/-- up to the place: 'none': there -/
noncomputable def evPath (P : Program) (cf : FuncId → List V → M V) (it n : Nat) : List Dir → Code → Env → M XO
  | [], _, env => M.pure ⟨none, env⟩
  | .l :: d, c, env => selB (isSeq c) ((evPath P cf it n d (cL c) env).bnd fun r => onXO r fun x _ => (Option.rec (motive := fun _ => M XO) (M.pure r) (fun x => (X.rec (motive := fun _ => M XO) (M.fail "past the place") (fun _ => M.pure r) (M.pure r) (fun _ => M.pure r) (x))) (x))) (M.fail "no such place")
  | .r :: d, c, env => selB (isSeq c) ((evCode (cL c) P cf it n env).bnd fun r => onXE r fun x e => (X.rec (motive := fun _ => M XO) (evPath P cf it n d (cR c) e) (fun _ => M.pure ⟨some x, e⟩) (M.pure ⟨some x, e⟩) (fun _ => M.pure ⟨some x, e⟩) (x))) (M.fail "no such place")
  | .b :: d, c, env => selB (isBlock c) ((evPath P cf it n d (cB c) env).bnd fun r => onXO r fun x _ => (Option.rec (motive := fun _ => M XO) (M.pure r) (fun x => (X.rec (motive := fun _ => M XO) (M.fail "past the place") (fun i => selB (Nat.beq i (cId c)) (M.fail "past the place") (M.pure r)) (M.pure r) (fun _ => M.pure r) (x))) (x))) (M.fail "no such place")

theorem path_ok {P : Program} {ρ : Nat → Int} (hM : P.follows .mixedOrders = true) {cf : FuncId → List V → M V} (hcf : CallsOK P ρ cf) (it n : Nat) : ∀ (d : List Dir) (co : Code), codeFlat co = true →
    ∀ {c : Cx} {m m' : Mem} {w : World} {p q : Pc} {env : Env} {r : XO} {a : Act}, c.ρ = ρ → MemR c m w → PcR c.ρ p → EnvR c n env a → (evPath P cf it n d co env).gives c.ρ m p r m' q →
    ∀ (Q : Exit → Act → World → Prop), (∀ a' w', PcR c.ρ q → After c m w m' n r.env a a' w' → match r.x with | none => placeWp P d co Q a' w' | some x => Q (exitOf x) a' w') → co.wp P Q a w
  | [], co, _, c, m, m', w, p, q, env, r, a, hρ, hm, hp, he, h, Q, hQ => by
    obtain ⟨rfl, rfl, rfl⟩ := M.gives_pure (show (M.pure (⟨none, env⟩ : XO)).gives c.ρ m p r m' q from h)
    exact hQ a w hp ⟨c, Step.refl hm, he, rfl⟩
  | .l :: d, co, hR, c, m, m', w, p, q, env, r, a, hρ, hm, hp, he, h, Q, hQ => by
    obtain ⟨h1, h2⟩ := M.gives_if (show (selB (isSeq co) ((evPath P cf it n d (cL co) env).bnd fun r => onXO r fun x _ => (Option.rec (M.pure r) (fun x => X.rec (M.fail "past the place") (fun _ => M.pure r) (M.pure r) (fun _ => M.pure r) x) x : M XO)) (M.fail "no such place")).gives c.ρ m p r m' q from h)
    cases co <;> try exact (Bool.false_ne_true h1).elim
    rename_i x y
    obtain ⟨hR1, _⟩ := codeFlat_seq hR
    obtain ⟨r0, m1, p1, h3, h4⟩ := M.gives_bnd h2
    refine wp_seq (path_ok hM hcf it n d x hR1 hρ hm hp he h3 _ fun a1 w1 hp1 hA => ?_)
    obtain ⟨z, env1⟩ := r0
    cases z with
    | none =>
      obtain ⟨rfl, rfl, rfl⟩ := M.gives_pure (show (M.pure (⟨none, env1⟩ : XO)).gives c.ρ m1 p1 r m' q from h4)
      exact hQ a1 w1 hp1 hA
    | some z =>
      cases z with
      | normal => exact (M.gives_fail (s := "past the place") h4).elim
      | exit i =>
        obtain ⟨rfl, rfl, rfl⟩ := M.gives_pure (show (M.pure (⟨some (.exit i), env1⟩ : XO)).gives c.ρ m1 p1 r m' q from h4)
        exact hQ a1 w1 hp1 hA
      | ret =>
        obtain ⟨rfl, rfl, rfl⟩ := M.gives_pure (show (M.pure (⟨some .ret, env1⟩ : XO)).gives c.ρ m1 p1 r m' q from h4)
        exact hQ a1 w1 hp1 hA
      | goto l =>
        obtain ⟨rfl, rfl, rfl⟩ := M.gives_pure (show (M.pure (⟨some (.goto l), env1⟩ : XO)).gives c.ρ m1 p1 r m' q from h4)
        exact hQ a1 w1 hp1 hA
  | .r :: d, co, hR, c, m, m', w, p, q, env, r, a, hρ, hm, hp, he, h, Q, hQ => by
    obtain ⟨h1, h2⟩ := M.gives_if (show (selB (isSeq co) ((evCode (cL co) P cf it n env).bnd fun r => onXE r fun x e => (X.rec (evPath P cf it n d (cR co) e) (fun _ => M.pure ⟨some x, e⟩) (M.pure ⟨some x, e⟩) (fun _ => M.pure ⟨some x, e⟩) x : M XO)) (M.fail "no such place")).gives c.ρ m p r m' q from h)
    cases co <;> try exact (Bool.false_ne_true h1).elim
    rename_i x y
    obtain ⟨hR1, hR2⟩ := codeFlat_seq hR
    obtain ⟨r0, m1, p1, h3, h4⟩ := M.gives_bnd h2
    refine wp_seq (evCode_ok hM hcf it x hR1 hρ hm hp he h3 _ fun a1 w1 hp1 hA => ?_)
    obtain ⟨z, env1⟩ := r0
    cases z with
    | normal =>
      obtain ⟨c1, s1, he1, hd⟩ := hA
      have hr := s1.le.ρ
      exact path_ok hM hcf it n d y hR2 (hr.trans hρ) s1.rel (by rw [hr]; exact hp1) he1 (by rw [hr]; exact h4) Q fun a2 w2 hq hA2 => hQ a2 w2 (by rw [← hr]; exact hq) (hA2.trans s1 hd)
    | exit i =>
      obtain ⟨rfl, rfl, rfl⟩ := M.gives_pure (show (M.pure (⟨some (.exit i), env1⟩ : XO)).gives c.ρ m1 p1 r m' q from h4)
      exact hQ a1 w1 hp1 hA
    | ret =>
      obtain ⟨rfl, rfl, rfl⟩ := M.gives_pure (show (M.pure (⟨some .ret, env1⟩ : XO)).gives c.ρ m1 p1 r m' q from h4)
      exact hQ a1 w1 hp1 hA
    | goto l =>
      obtain ⟨rfl, rfl, rfl⟩ := M.gives_pure (show (M.pure (⟨some (.goto l), env1⟩ : XO)).gives c.ρ m1 p1 r m' q from h4)
      exact hQ a1 w1 hp1 hA
  | .b :: d, co, hR, c, m, m', w, p, q, env, r, a, hρ, hm, hp, he, h, Q, hQ => by
    obtain ⟨h1, h2⟩ := M.gives_if (show (selB (isBlock co) ((evPath P cf it n d (cB co) env).bnd fun r => onXO r fun x _ => (Option.rec (M.pure r) (fun x => X.rec (M.fail "past the place") (fun i => selB (Nat.beq i (cId co)) (M.fail "past the place") (M.pure r)) (M.pure r) (fun _ => M.pure r) x) x : M XO)) (M.fail "no such place")).gives c.ρ m p r m' q from h)
    cases co <;> try exact (Bool.false_ne_true h1).elim
    rename_i id x
    obtain ⟨r0, m1, p1, h3, h4⟩ := M.gives_bnd h2
    refine wp_block (path_ok hM hcf it n d x hR hρ hm hp he h3 _ fun a1 w1 hp1 hA => ?_)
    obtain ⟨z, env1⟩ := r0
    cases z with
    | none =>
      obtain ⟨rfl, rfl, rfl⟩ := M.gives_pure (show (M.pure (⟨none, env1⟩ : XO)).gives c.ρ m1 p1 r m' q from h4)
      exact hQ a1 w1 hp1 hA
    | some z =>
      cases z with
      | normal => exact (M.gives_fail (s := "past the place") h4).elim
      | exit i =>
        have h4 : (selB (Nat.beq i id) (M.fail "past the place") (M.pure (⟨some (.exit i), env1⟩ : XO))).gives c.ρ m1 p1 r m' q := h4
        cases hb : Nat.beq i id with
        | true => rw [hb] at h4; exact (M.gives_fail (s := "past the place") h4).elim
        | false =>
          rw [hb] at h4
          obtain ⟨rfl, rfl, rfl⟩ := M.gives_pure h4
          have hq := hQ a1 w1 hp1 hA
          rw [beq_false] at hb
          show Exit.inBlock id Q (.exit i) a1 w1
          simp only [Exit.inBlock, if_neg hb]; exact hq
      | ret =>
        obtain ⟨rfl, rfl, rfl⟩ := M.gives_pure (show (M.pure (⟨some .ret, env1⟩ : XO)).gives c.ρ m1 p1 r m' q from h4)
        exact hQ a1 w1 hp1 hA
      | goto l =>
        obtain ⟨rfl, rfl, rfl⟩ := M.gives_pure (show (M.pure (⟨some (.goto l), env1⟩ : XO)).gives c.ρ m1 p1 r m' q from h4)
        exact hQ a1 w1 hp1 hA

/-- a leaf at the place, as one that has come to its end -/
noncomputable def headX (r : XO) : M XE := onXO r fun x env => (Option.rec (motive := fun _ => M XE) (M.pure ⟨.normal, env⟩) (fun x => (X.rec (motive := fun _ => M XE) (M.fail "past the place") (fun _ => M.pure ⟨x, env⟩) (M.pure ⟨x, env⟩) (fun _ => M.pure ⟨x, env⟩) (x))) (x))

noncomputable def evHead (P : Program) (cf : FuncId → List V → M V) (it n : Nat) (d : List Dir) (co : Code) (env : Env) : M XE := (evPath P cf it n d co env).bnd headX

section piece
variable {P : Program} {cf : FuncId → List V → M V} {W0 : World} {J : (Nat → Int) → Prop} {m : Mem} {n : Nat} {env : Env} {p : Pc} {a : Act} {w : World} {Q : Exit → Act → World → Prop}

/-- a code up to a place ('normal': there) -/
theorem head_ok (hM : P.follows .mixedOrders = true) (hcf : ∀ ρ, CallsOK P ρ cf) {d : List Dir} {co : Code} (hR : codeFlat co = true) {it : Nat} (hA : At W0 J m n env p a w)
    (h : ∀ ρ, J ρ → PcR ρ p → ∃ r m' q, (evHead P cf it n d co env m p).out ρ = some ⟨r, m', q⟩ ∧ ∀ a' w', At W0 (fun ρ' => ρ' = ρ) m' n r.env q a' w' →
      match r.x with
      | .normal => placeWp P d co Q a' w'
      | x => Q (exitOf x) a' w') : co.wp P Q a w := by
  obtain ⟨c, hJ, hm, hp, he, hd, hb, hw⟩ := hA
  obtain ⟨r, m', q, ho, hq⟩ := h c.ρ hJ hp
  obtain ⟨r0, m1, p1, h1, h2⟩ := M.gives_bnd (show ((evPath P cf it n d co env).bnd headX).gives c.ρ m p r m' q from ho)
  refine path_ok hM (hcf c.ρ) it n d co hR rfl hm hp he h1 Q fun a' w' hpq hAf => ?_
  obtain ⟨c', s, he', hd'⟩ := hAf
  obtain ⟨k1, k2⟩ := below_step hb hw s
  obtain ⟨z, env1⟩ := r0
  cases z with
  | none =>
    obtain ⟨rfl, rfl, rfl⟩ := M.gives_pure (show (M.pure (⟨.normal, env1⟩ : XE)).gives c.ρ m1 p1 r m' q from h2)
    exact hq a' w' ⟨c', s.le.ρ, s.rel, by rw [s.le.ρ]; exact hpq, he', hd'.trans hd, k1, k2⟩
  | some z =>
    cases z with
    | normal => exact (M.gives_fail (s := "past the place") h2).elim
    | exit i =>
      obtain ⟨rfl, rfl, rfl⟩ := M.gives_pure (show (M.pure (⟨.exit i, env1⟩ : XE)).gives c.ρ m1 p1 r m' q from h2)
      exact hq a' w' ⟨c', s.le.ρ, s.rel, by rw [s.le.ρ]; exact hpq, he', hd'.trans hd, k1, k2⟩
    | ret =>
      obtain ⟨rfl, rfl, rfl⟩ := M.gives_pure (show (M.pure (⟨.ret, env1⟩ : XE)).gives c.ρ m1 p1 r m' q from h2)
      exact hq a' w' ⟨c', s.le.ρ, s.rel, by rw [s.le.ρ]; exact hpq, he', hd'.trans hd, k1, k2⟩
    | goto l =>
      obtain ⟨rfl, rfl, rfl⟩ := M.gives_pure (show (M.pure (⟨.goto l, env1⟩ : XE)).gives c.ρ m1 p1 r m' q from h2)
      exact hq a' w' ⟨c', s.le.ρ, s.rel, by rw [s.le.ρ]; exact hpq, he', hd'.trans hd, k1, k2⟩
end piece

end Go.Sy

/-
  What is proved here: a law in pieces, with what is left to show as arithmetic.
  Conditions: none.
-/
namespace Go.Sy
open Go.RowKit (Below)

noncomputable def tagO (t : Nat) (o : Option (List G)) : Option (Nat × List G) := (Option.rec (motive := fun _ => Option (Nat × List G)) (none) (fun s => some (t, s)) (o))

/-- at the end of a round: on into the pattern (0), out of the block 'id' into the pattern (1), or back with the slot t (9) -/
noncomputable def tgtL (pt : Pt) (env : Env) (m : Mem) (id t : Nat) : Tgt := fun x env' m' => (X.rec (motive := fun _ => Option (Nat × List G)) (tagO 0 (fitSt pt env m env' m')) (fun i => selB (Nat.beq i id) (tagO 1 (fitSt pt env m env' m')) none) (boolAt env' t) (fun _ => none) (x))

/-- at a place: into the pattern (0), or back with the slot t (9) -/
noncomputable def tgtH (pt : Pt) (env : Env) (m : Mem) (t : Nat) : Tgt := fun x env' m' => (X.rec (motive := fun _ => Option (Nat × List G)) (tagO 0 (fitSt pt env m env' m')) (fun _ => none) (boolAt env' t) (fun _ => none) (x))

/-- at the end: back with the slot t (9) -/
noncomputable def tgtR (t : Nat) : Tgt := fun x env' _ => (X.rec (motive := fun _ => Option (Nat × List G)) (boolAt env' t) (fun _ => none) (boolAt env' t) (fun _ => none) (x))

theorem tagO_ok {t tag : Nat} {o : Option (List G)} {s : List G} (h : tagO t o = some (tag, s)) : tag = t ∧ o = some s := by
  cases o with
  | none => exact absurd (show none = some (tag, s) from h) (by simp)
  | some r =>
    have h : some (t, r) = some (tag, s) := h
    simp at h
    exact ⟨h.1.symm, by rw [h.2]⟩

theorem boolAt_tag {env : Env} {t tag : Nat} {s : List G} (h : boolAt env t = some (tag, s)) : tag = 9 := by
  rcases onBool_cases (env t) (fun b => some (9, [G.ofB b])) none with ⟨b, e, hb'⟩ | hb'
  · have hb : some (9, [G.ofB b]) = some (tag, s) := by rw [← hb']; exact h
    simp at hb; exact hb.1.symm
  · have hb : none = some (tag, s) := by rw [← hb']; exact h
    exact absurd hb (by simp)

/-- what a leaf owes: 'J' (and less of 'μ') on into the pattern; 'Jx' out of the loop; true where it goes back -/
def Owes (base : Nat) (p0 : Pc) (J Jx : (Nat → Int) → Prop) (ρ : Nat → Int) (v : Vc) : Prop :=
  match v.tag with
  | 0 => PcR (sub base v.s ρ) p0 ∧ J (sub base v.s ρ)
  | 1 => PcR (sub base v.s ρ) p0 ∧ Jx (sub base v.s ρ)
  | _ => ∀ g ∈ v.s, g.den ρ = 1

section laws
variable {P : Program} {cf : FuncId → List V → M V} {W0 : World} {J Jx : (Nat → Int) → Prop} {m0 : Mem} {n : Nat} {e0 : Env} {p p0 : Pc} {a : Act} {w : World} {fn : Func} {t : Nat}

/-- a loop of the law -/
theorem loop_vcs (hM : P.follows .mixedOrders = true) (hcf : ∀ ρ, CallsOK P ρ cf) {co : Code} (hR : codeFlat co = true) (hr : fn.results = #[.tmp t]) {it : Nat} {pt : Pt} {id : Nat} {l : List Vc} {Q : Exit → Act → World → Prop} (μ : (Nat → Int) → Nat)
    (hv : vcs (tgtL pt e0 m0 id t) (evCode co P cf it n (genEnv pt e0) (genMem pt m0) p0) = some l)
    (ho : ∀ v ∈ l, ∀ ρ, J ρ → PcR ρ p0 → PcR ρ v.q → Owes pt.base p0 (fun ρ' => J ρ' ∧ μ ρ' < μ ρ) Jx ρ v)
    (hQ : ∀ a w, At W0 Jx (genMem pt m0) n (genEnv pt e0) p0 a w → Q (.exit id) a w) (hQr : ∀ a w, bodyPost P fn (LawEnd W0) .ret a w → Q .ret a w)
    (hA : At W0 J (genMem pt m0) n (genEnv pt e0) p0 a w) : (Code.loop co).wp P Q a w := by
  refine loop_ok (it := it) hM hcf hR μ (fun ρ hJ hp => ?_) hA
  obtain ⟨r, m', q, tag, s, h1, h2, h3⟩ := vcs_out ρ hv
  refine ⟨r, m', q, h1, fun a' w' hA' => ?_⟩
  have ho := ho _ h3 ρ hJ hp
  obtain ⟨x, env'⟩ := r
  cases x with
  | normal =>
    obtain ⟨rfl, hf⟩ := tagO_ok (show tagO 0 (fitSt pt e0 m0 env' m') = some (tag, s) from h2)
    exact fit_ok hA' hf fun hq => ho hq
  | exit i =>
    obtain ⟨hi, h4⟩ := selB_some (show selB (Nat.beq i id) (tagO 1 (fitSt pt e0 m0 env' m')) none = some (tag, s) from h2)
    rw [beq_iff] at hi; subst hi
    obtain ⟨rfl, hf⟩ := tagO_ok h4
    exact hQ _ _ (fit_ok hA' hf fun hq => ho hq)
  | goto l => exact absurd (show none = some (tag, s) from h2) (by simp)
  | ret =>
    have h2 : boolAt env' t = some (tag, s) := h2
    have := boolAt_tag h2
    subst this
    exact hQr _ _ (ret_ok hr (x := .ret) (.inl rfl) hA' h2 fun hq => ho hq)

/-- up to a place -/
theorem head_vcs (hM : P.follows .mixedOrders = true) (hcf : ∀ ρ, CallsOK P ρ cf) {d : List Dir} {co : Code} (hR : codeFlat co = true) (hr : fn.results = #[.tmp t]) {it : Nat} {pt : Pt} {l : List Vc} {m : Mem} {env : Env} {J0 : (Nat → Int) → Prop}
    (hv : vcs (tgtH pt e0 m0 t) (evHead P cf it n d co env m p) = some l)
    (ho : ∀ v ∈ l, ∀ ρ, J0 ρ → PcR ρ p → PcR ρ v.q → Owes pt.base p0 J Jx ρ v)
    (hQ : ∀ a w, At W0 J (genMem pt m0) n (genEnv pt e0) p0 a w → placeWp P d co (bodyPost P fn (LawEnd W0)) a w)
    (hA : At W0 J0 m n env p a w) : co.wp P (bodyPost P fn (LawEnd W0)) a w := by
  refine head_ok (it := it) (d := d) hM hcf hR hA fun ρ hJ hp => ?_
  obtain ⟨r, m', q, tag, s, h1, h2, h3⟩ := vcs_out ρ hv
  refine ⟨r, m', q, h1, fun a' w' hA' => ?_⟩
  have ho := ho _ h3 ρ hJ hp
  obtain ⟨x, env'⟩ := r
  cases x with
  | normal =>
    obtain ⟨rfl, hf⟩ := tagO_ok (show tagO 0 (fitSt pt e0 m0 env' m') = some (tag, s) from h2)
    exact hQ _ _ (fit_ok hA' hf fun hq => ho hq)
  | exit i => exact absurd (show none = some (tag, s) from h2) (by simp)
  | goto l => exact absurd (show none = some (tag, s) from h2) (by simp)
  | ret =>
    have h2 : boolAt env' t = some (tag, s) := h2
    have := boolAt_tag h2
    subst this
    exact ret_ok hr (x := .ret) (.inl rfl) hA' h2 fun hq => ho hq

/-- to the end -/
theorem end_vcs (hM : P.follows .mixedOrders = true) (hcf : ∀ ρ, CallsOK P ρ cf) {co : Code} (hR : codeFlat co = true) (hr : fn.results = #[.tmp t]) {it : Nat} {l : List Vc} {m : Mem} {env : Env}
    (hv : vcs (tgtR t) (evCode co P cf it n env m p) = some l)
    {base : Nat} {J1 J2 : (Nat → Int) → Prop} (ho : ∀ v ∈ l, ∀ ρ, J ρ → PcR ρ p → PcR ρ v.q → Owes base p0 J1 J2 ρ v)
    (hA : At W0 J m n env p a w) : co.wp P (bodyPost P fn (LawEnd W0)) a w := by
  refine piece_ok (it := it) hM hcf hR hA fun ρ hJ hp => ?_
  obtain ⟨r, m', q, tag, s, h1, h2, h3⟩ := vcs_out ρ hv
  refine ⟨r, m', q, h1, fun a' w' hA' => ?_⟩
  have ho := ho _ h3 ρ hJ hp
  obtain ⟨x, env'⟩ := r
  cases x with
  | normal =>
    have h2 : boolAt env' t = some (tag, s) := h2
    have := boolAt_tag h2
    subst this
    exact ret_ok hr (x := .normal) (.inr rfl) hA' h2 fun hq => ho hq
  | exit i => exact absurd (show none = some (tag, s) from h2) (by simp)
  | goto l => exact absurd (show none = some (tag, s) from h2) (by simp)
  | ret =>
    have h2 : boolAt env' t = some (tag, s) := h2
    have := boolAt_tag h2
    subst this
    exact ret_ok hr (x := .ret) (.inl rfl) hA' h2 fun hq => ho hq
end laws

/-! ### facts as arithmetic -/

/-- the path's facts -/
def factsP (ρ : Nat → Int) : List (B × Bool) → Prop
  | [] => True
  | (c, v) :: l => c.den ρ = v ∧ factsP ρ l
def rngP (ρ : Nat → Int) : Nat → List (Int × Int) → Prop
  | _, [] => True
  | i, (lo, hi) :: l => (lo ≤ ρ i ∧ ρ i ≤ hi) ∧ rngP ρ (i + 1) l

theorem factsP_of {ρ : Nat → Int} : ∀ {l : List (B × Bool)}, (∀ c ∈ l, c.1.den ρ = c.2) → factsP ρ l
  | [], _ => trivial
  | (c, v) :: _, h => ⟨h (c, v) (.head _), factsP_of fun d hd => h d (.tail _ hd)⟩

theorem rngP_of {ρ : Nat → Int} : ∀ {l : List (Int × Int)} {i : Nat}, (∀ j lo hi, l[j]? = some (lo, hi) → lo ≤ ρ (i + j) ∧ ρ (i + j) ≤ hi) → rngP ρ i l
  | [], _, _ => trivial
  | (lo, hi) :: _, i, h => ⟨by have := h 0 lo hi rfl; simpa using this, rngP_of fun j lo' hi' hj => by
      have := h (j + 1) lo' hi' (by simpa using hj)
      rw [show i + 1 + j = i + (j + 1) by omega]; exact this⟩

theorem rngP_iff {ρ : Nat → Int} {l : List (Int × Int)} : RngR ρ l ↔ rngP ρ 0 l := by
  constructor
  · intro h; exact rngP_of fun j lo hi hj => by rw [Nat.zero_add]; exact h j lo hi hj
  · intro h j lo hi hj
    have key : ∀ {l : List (Int × Int)} {i j : Nat}, rngP ρ i l → l[j]? = some (lo, hi) → lo ≤ ρ (i + j) ∧ ρ (i + j) ≤ hi := by
      intro l
      induction l with
      | nil => intro i j _ h; simp at h
      | cons x l ih =>
        intro i j h hj
        obtain ⟨a, b⟩ := x
        cases j with
        | zero => simp at hj; obtain ⟨rfl, rfl⟩ := hj; exact h.1
        | succ j =>
          have := ih h.2 (by simpa using hj)
          rw [show i + (j + 1) = i + 1 + j by omega]; exact this
    have := key h hj
    rwa [Nat.zero_add] at this

theorem pcR_facts {ρ : Nat → Int} {cs : List (B × Bool)} {rng : List (Int × Int)} (h : PcR ρ ⟨cs, rng⟩) : factsP ρ cs ∧ rngP ρ 0 rng := ⟨factsP_of h.cs, rngP_iff.1 h.rng⟩
theorem pcR_of {ρ : Nat → Int} {rng : List (Int × Int)} (h : rngP ρ 0 rng) : PcR ρ ⟨[], rng⟩ := ⟨fun c hc => by simp at hc, rngP_iff.2 h⟩

section den
variable {ρ : Nat → Int}
theorem den_n {z : Int} : (E.n z).den ρ = z := rfl
theorem den_x {i : Nat} : (E.x i).den ρ = ρ i := rfl
theorem den_add {k : IntKind} {a b : E} (h1 : kMin k ≤ a.den ρ + b.den ρ) (h2 : a.den ρ + b.den ρ ≤ kMax k) : (E.bin .add k a b).den ρ = a.den ρ + b.den ρ := by
  show wrapZ k (a.den ρ + b.den ρ) = _
  rw [wrapZ_eq]; exact wrap_in k _ h1 h2
theorem den_sub {k : IntKind} {a b : E} (h1 : kMin k ≤ a.den ρ - b.den ρ) (h2 : a.den ρ - b.den ρ ≤ kMax k) : (E.bin .sub k a b).den ρ = a.den ρ - b.den ρ := by
  show wrapZ k (a.den ρ - b.den ρ) = _
  rw [wrapZ_eq]; exact wrap_in k _ h1 h2
theorem den_rem {k : IntKind} {a b : E} (h : 0 ≤ a.den ρ) : (E.bin .rem k a b).den ρ = a.den ρ % b.den ρ := by
  show (a.den ρ).tmod (b.den ρ) = _
  exact Int.tmod_eq_emod_of_nonneg h
theorem den_quo {k : IntKind} {a b : E} (h : 0 ≤ a.den ρ) (h1 : kMin k ≤ a.den ρ / b.den ρ) (h2 : a.den ρ / b.den ρ ≤ kMax k) : (E.bin .quo k a b).den ρ = a.den ρ / b.den ρ := by
  show wrapZ k ((a.den ρ).tdiv (b.den ρ)) = _
  rw [Int.tdiv_eq_ediv_of_nonneg h, wrapZ_eq]; exact wrap_in k _ h1 h2
theorem den_lt {a b : E} {v : Bool} : ((B.lt a b).den ρ = v) = (decide (a.den ρ < b.den ρ) = v) := rfl
theorem den_eq {a b : E} {v : Bool} : ((B.eq a b).den ρ = v) = ((a.den ρ == b.den ρ) = v) := rfl
theorem den_not {a : B} {v : Bool} : ((B.not a).den ρ = v) = ((!a.den ρ) = v) := rfl
end den

end Go.Sy

/-
  What is proved here: terms as plain arithmetic, where nothing overflows.
  Conditions: none.
-/
namespace Go.Sy
open Go.RowKit (Below)

/-- plain arithmetic -/
inductive Z where
  | n (z : Int)
  | x (i : Nat)
  | add (a b : Z)
  | sub (a b : Z)
  | mul (a b : Z)
  | md (a b : Z)
  | dv (a b : Z)
  | e (a : E)

noncomputable def Z.den (ρ : Nat → Int) : Z → Int
  | .n z => z
  | .x i => ρ i
  | .add a b => a.den ρ + b.den ρ
  | .sub a b => a.den ρ - b.den ρ
  | .mul a b => a.den ρ * b.den ρ
  | .md a b => a.den ρ % b.den ρ
  | .dv a b => a.den ρ / b.den ρ
  | .e a => a.den ρ

noncomputable def fitsK (k : IntKind) (lo hi : Int) : Bool := andB (leZ (kMin k) lo) (leZ hi (kMax k))

/-- a power of two less one: its number of bits -/
noncomputable def maskOf (z : Int) : Option Nat := (Int.rec (motive := fun _ => Option Nat) (fun m => selB (Nat.beq (Nat.pow 2 (Nat.log2 (Nat.succ m))) (Nat.succ m)) (some (Nat.log2 (Nat.succ m))) none) (fun _ => none) (z))

/-- 'a or b', where b is so many times a power of two that is more than a -/
noncomputable def normOr (za zb : Z) (ah : Int) (b : E) (d : Z) : Z :=
  match zb with
  | .mul _ (.n c) => match b with
    | .bin .shl _ _ (.n j) => selB (andB (andB (leZ 0 j) (eqZ c (Int.ofNat (Nat.pow 2 j.toNat)))) (ltZ ah c)) (.add za zb) d
    | _ => d
  | _ => d

noncomputable def normBin (op : BinOp) (k : IntKind) (a b : E) (za zb : Z) (ia ib : Option (Int × Int)) : Z :=
  match ia, ib with
  | some (al, ah), some (bl, bh) =>
    match op with
    | .add => selB (fitsK k (Int.add al bl) (Int.add ah bh)) (.add za zb) (.e (.bin op k a b))
    | .sub => selB (fitsK k (Int.sub al bh) (Int.sub ah bl)) (.sub za zb) (.e (.bin op k a b))
    | .mul => selB (andB (andB (leZ 0 al) (leZ 0 bl)) (fitsK k 0 (Int.mul ah bh))) (.mul za zb) (.e (.bin op k a b))
    | .rem => selB (leZ 0 al) (.md za zb) (.e (.bin op k a b))
    | .quo => selB (andB (andB (leZ 0 al) (leZ 1 bl)) (fitsK k 0 ah)) (.dv za zb) (.e (.bin op k a b))
    | .shr => selB (andB (andB (leZ 0 al) (leZ 0 bl)) (andB (eqZ bl bh) (leZ bl k.bits))) (.dv za (.n (Int.ofNat (Nat.pow 2 bl.toNat)))) (.e (.bin op k a b))
    | .shl => selB (andB (andB (leZ 0 al) (leZ 0 bl)) (andB (andB (eqZ bl bh) (leZ bl k.bits)) (leZ (Int.mul ah (Int.ofNat (Nat.pow 2 bl.toNat))) (kMax k)))) (.mul za (.n (Int.ofNat (Nat.pow 2 bl.toNat)))) (.e (.bin op k a b))
    | .or => selB (andB (andB (leZ 0 al) (leZ 0 bl)) (andB (leZ ah (kMax k)) (leZ bh (kMax k)))) (normOr za zb ah b (.e (.bin op k a b))) (.e (.bin op k a b))
    | _ => .e (.bin op k a b)
  | _, _ => .e (.bin op k a b)

noncomputable def normCv (k : IntKind) (a : E) (za : Z) (ia : Option (Int × Int)) : Z :=
  match ia with
  | some (al, ah) => selB (fitsK k al ah) za (selB (notB k.signed) (.md za (.n (limN k))) (.e (.cv k a)))
  | none => .e (.cv k a)

noncomputable def norm (rng : List (Int × Int)) : E → Z
  | .n z => .n z
  | .x i => .x i
  | .bin op k a b => normBin op k a b (norm rng a) (norm rng b) (a.iv rng) (b.iv rng)
  | .cv k a => normCv k a (norm rng a) (a.iv rng)
  | .rd a r lo hi e => .e (.rd a r lo hi e)
  | .tab l lo hi e => .e (.tab l lo hi e)

theorem fitsK_ok {k : IntKind} {lo hi z : Int} (h : fitsK k lo hi = true) (h1 : lo ≤ z) (h2 : z ≤ hi) : k.wrap z = z := by
  obtain ⟨h3, h4⟩ := andB_ok h
  rw [leZ_iff] at h3 h4
  exact wrap_in k z (by omega) (by omega)

theorem selB_den {ρ : Nat → Int} {c : Bool} {x y : Z} {v : Int} (h1 : c = true → x.den ρ = v) (h2 : y.den ρ = v) : (selB c x y).den ρ = v := by
  cases c with
  | true => exact h1 rfl
  | false => exact h2

theorem normOr_ok {ρ : Nat → Int} {k : IntKind} {a b : E} {za zb : Z} {ah : Int} (ha : za.den ρ = a.den ρ) (hb : zb.den ρ = b.den ρ) (a0 : 0 ≤ a.den ρ) (a1 : a.den ρ ≤ ah) (b0 : 0 ≤ b.den ρ) (h1 : a.den ρ ≤ kMax k) (h2 : b.den ρ ≤ kMax k) :
    (normOr za zb ah b (.e (.bin .or k a b))).den ρ = (E.bin .or k a b).den ρ := by
  unfold normOr
  split
  · rename_i zc c
    split
    · rename_i k' b0' j
      refine selB_den (fun h => ?_) rfl
      obtain ⟨h3, h4⟩ := andB_ok h
      obtain ⟨h5, h6⟩ := andB_ok h3
      rw [leZ_iff] at h5
      rw [eqZ_iff] at h6
      rw [ltZ_iff] at h4
      obtain ⟨x, hx⟩ := Int.eq_ofNat_of_zero_le a0
      obtain ⟨y, hy⟩ := Int.eq_ofNat_of_zero_le b0
      have hc : c = ((2 ^ j.toNat : Nat) : Int) := h6
      have hmul : zc.den ρ * ((2 ^ j.toNat : Nat) : Int) = (y : Int) := by
        have := hb
        rw [hy] at this
        rw [← hc]; exact this
      have hdvd : ∃ u : Nat, y = 2 ^ j.toNat * u := by
        have hp : (0 : Int) < ((2 ^ j.toNat : Nat) : Int) := by exact_mod_cast Nat.two_pow_pos _
        have h7 : ((2 ^ j.toNat : Nat) : Int) ∣ (y : Int) := ⟨zc.den ρ, by rw [← hmul, Int.mul_comm]⟩
        have h8 : 2 ^ j.toNat ∣ y := Int.natCast_dvd_natCast.1 h7
        exact h8
      obtain ⟨u, hu⟩ := hdvd
      have hxl : x < 2 ^ j.toNat := by omega
      rw [or_den hx hy (by omega) (by omega)]
      show za.den ρ + (Z.mul zc (.n c)).den ρ = _
      rw [ha, hb, hx, hy, hu]
      have := Nat.two_pow_add_eq_or_of_lt hxl u
      have e : x ||| 2 ^ j.toNat * u = 2 ^ j.toNat * u + x := by rw [Nat.or_comm]; exact this.symm
      rw [e]
      push_cast
      omega
    · rfl
  · rfl

theorem norm_den {ρ : Nat → Int} {rng : List (Int × Int)} (hr : RngR ρ rng) : ∀ (e : E), (norm rng e).den ρ = e.den ρ
  | .n _ => rfl
  | .x _ => rfl
  | .rd _ _ _ _ _ => rfl
  | .tab _ _ _ _ => rfl
  | .bin op k a b => by
    have ha := norm_den hr a
    have hb := norm_den hr b
    show (normBin op k a b (norm rng a) (norm rng b) (a.iv rng) (b.iv rng)).den ρ = _
    unfold normBin
    split
    · rename_i al ah bl bh e1 e2
      obtain ⟨a1, a2⟩ := E.iv_in hr e1
      obtain ⟨b1, b2⟩ := E.iv_in hr e2
      split
      · refine selB_den (fun h => ?_) rfl
        show (norm rng a).den ρ + (norm rng b).den ρ = wrapZ k (a.den ρ + b.den ρ)
        rw [ha, hb, wrapZ_eq]
        exact (fitsK_ok h (show al + bl ≤ _ by omega) (show _ ≤ ah + bh by omega)).symm
      · refine selB_den (fun h => ?_) rfl
        show (norm rng a).den ρ - (norm rng b).den ρ = wrapZ k (a.den ρ - b.den ρ)
        rw [ha, hb, wrapZ_eq]
        exact (fitsK_ok h (show al - bh ≤ _ by omega) (show _ ≤ ah - bl by omega)).symm
      · refine selB_den (fun h => ?_) rfl
        obtain ⟨h1, h2⟩ := andB_ok h
        obtain ⟨h3, h4⟩ := andB_ok h1
        rw [leZ_iff] at h3 h4
        show (norm rng a).den ρ * (norm rng b).den ρ = wrapZ k (a.den ρ * b.den ρ)
        rw [ha, hb, wrapZ_eq]
        exact (fitsK_ok h2 (Int.mul_nonneg (by omega) (by omega)) (Int.mul_le_mul a2 b2 (by omega) (by omega))).symm
      · refine selB_den (fun h => ?_) rfl
        rw [leZ_iff] at h
        show (norm rng a).den ρ % (norm rng b).den ρ = (a.den ρ).tmod (b.den ρ)
        rw [ha, hb, Int.tmod_eq_emod_of_nonneg (by omega)]
      · refine selB_den (fun h => ?_) rfl
        obtain ⟨h1, h2⟩ := andB_ok h
        obtain ⟨h3, h4⟩ := andB_ok h1
        rw [leZ_iff] at h3 h4
        show (norm rng a).den ρ / (norm rng b).den ρ = wrapZ k ((a.den ρ).tdiv (b.den ρ))
        rw [ha, hb, wrapZ_eq, Int.tdiv_eq_ediv_of_nonneg (by omega)]
        exact (fitsK_ok h2 (Int.ediv_nonneg (by omega) (by omega)) (Int.le_trans (Int.ediv_le_self _ (by omega)) a2)).symm
      · refine selB_den (fun h => ?_) rfl
        obtain ⟨h1, h2⟩ := andB_ok h
        obtain ⟨h3, h4⟩ := andB_ok h1
        obtain ⟨h5, h6⟩ := andB_ok h2
        rw [leZ_iff] at h3 h4 h6
        rw [eqZ_iff] at h5
        obtain ⟨x, hx⟩ := Int.eq_ofNat_of_zero_le (show 0 ≤ a.den ρ by omega)
        have hb2 : b.den ρ = bl := by omega
        show (norm rng a).den ρ / ((2 ^ bl.toNat : Nat) : Int) = shrZ k (a.den ρ) (b.den ρ)
        rw [ha, hx, hb2]
        show _ = Int.ofNat (Nat.div x (Nat.pow 2 (min bl.toNat k.bits)))
        rw [show min bl.toNat k.bits = bl.toNat by omega]
        show (x : Int) / ((2 ^ bl.toNat : Nat) : Int) = ((x / 2 ^ bl.toNat : Nat) : Int)
        exact (Int.natCast_ediv _ _).symm
      · refine selB_den (fun h => ?_) rfl
        obtain ⟨h1, h2⟩ := andB_ok h
        obtain ⟨h3, h4⟩ := andB_ok h1
        obtain ⟨h5, h6⟩ := andB_ok h2
        obtain ⟨h7, h8⟩ := andB_ok h5
        rw [leZ_iff] at h3 h4 h6 h8
        rw [eqZ_iff] at h7
        obtain ⟨e1, _⟩ := shl_den (k := k) (a := a) (b := b) (ρ := ρ) (by omega) a2 (show b.den ρ = bl by omega) h8 h6
        show (norm rng a).den ρ * ((2 ^ bl.toNat : Nat) : Int) = _
        rw [ha, e1]
      · refine selB_den (fun h => ?_) rfl
        obtain ⟨h1, h2⟩ := andB_ok h
        obtain ⟨h3, h4⟩ := andB_ok h1
        obtain ⟨h5, h6⟩ := andB_ok h2
        rw [leZ_iff] at h3 h4 h5 h6
        exact normOr_ok ha hb (by omega) a2 (by omega) (by omega) (by omega)
      · rfl
    · rfl
  | .cv k a => by
    have ha := norm_den hr a
    show (normCv k a (norm rng a) (a.iv rng)).den ρ = k.wrap (a.den ρ)
    unfold normCv
    split
    · rename_i al ah e1
      obtain ⟨a1, a2⟩ := E.iv_in hr e1
      refine selB_den (fun h => ?_) (selB_den (fun h => ?_) rfl)
      · rw [ha]; exact (fitsK_ok h a1 a2).symm
      · show (norm rng a).den ρ % (limN k : Int) = k.wrap (a.den ρ)
        rw [ha]
        cases k <;> try exact (Bool.false_ne_true h).elim
        all_goals simp [IntKind.wrap, IntKind.signed, IntKind.bits, limN]
    · rfl

theorem rd_in {ρ : Nat → Int} {a r : Nat} {lo hi : Int} {e : E} (h : lo ≤ hi) : lo ≤ (E.rd a r lo hi e).den ρ ∧ (E.rd a r lo hi e).den ρ ≤ hi := clampZ_in h

/-! ### conditions -/

inductive BZ where
  | lit (v : Bool)
  | lt (a b : Z)
  | eq (a b : Z)
  | not (a : BZ)

noncomputable def normBZ (rng : List (Int × Int)) : B → BZ
  | .lit v => .lit v
  | .lt a b => .lt (norm rng a) (norm rng b)
  | .eq a b => .eq (norm rng a) (norm rng b)
  | .not a => .not (normBZ rng a)

/-- the condition as a proposition -/
def BZ.prop (ρ : Nat → Int) : BZ → Bool → Prop
  | .lit u, v => u = v
  | .lt a b, true => a.den ρ < b.den ρ
  | .lt a b, false => ¬ a.den ρ < b.den ρ
  | .eq a b, true => a.den ρ = b.den ρ
  | .eq a b, false => a.den ρ ≠ b.den ρ
  | .not a, v => a.prop ρ (!v)

theorem normBZ_prop {ρ : Nat → Int} {rng : List (Int × Int)} (hr : RngR ρ rng) : ∀ {c : B} {v : Bool}, c.den ρ = v ↔ (normBZ rng c).prop ρ v
  | .lit u, v => Iff.rfl
  | .lt a b, true => by
    show decide (a.den ρ < b.den ρ) = true ↔ (norm rng a).den ρ < (norm rng b).den ρ
    rw [norm_den hr, norm_den hr, decide_eq_true_iff]
  | .lt a b, false => by
    show decide (a.den ρ < b.den ρ) = false ↔ ¬ (norm rng a).den ρ < (norm rng b).den ρ
    rw [norm_den hr, norm_den hr, decide_eq_false_iff_not]
  | .eq a b, true => by
    show (a.den ρ == b.den ρ) = true ↔ (norm rng a).den ρ = (norm rng b).den ρ
    rw [norm_den hr, norm_den hr, beq_iff_eq]
  | .eq a b, false => by
    show (a.den ρ == b.den ρ) = false ↔ (norm rng a).den ρ ≠ (norm rng b).den ρ
    rw [norm_den hr, norm_den hr, beq_eq_false_iff_ne]
  | .not a, v => by
    show (!a.den ρ) = v ↔ (normBZ rng a).prop ρ (!v)
    rw [← normBZ_prop hr (c := a) (v := !v)]
    cases a.den ρ <;> cases v <;> simp

inductive GZ where
  | ofZ (a : Z)
  | ofB (c : BZ)

noncomputable def normG (rng : List (Int × Int)) : G → GZ
  | .ofE a => .ofZ (norm rng a)
  | .ofB c => .ofB (normBZ rng c)

/-- what stands at a general place is 'v' -/
def GZ.is (ρ : Nat → Int) (v : Int) : GZ → Prop
  | .ofZ a => v = a.den ρ
  | .ofB c => (c.prop ρ true ∧ v = 1) ∨ (c.prop ρ false ∧ v = 0)

theorem normG_is {ρ : Nat → Int} {rng : List (Int × Int)} (hr : RngR ρ rng) (g : G) : (normG rng g).is ρ (g.den ρ) := by
  cases g with
  | ofE a => exact (norm_den hr a).symm
  | ofB c =>
    show ((normBZ rng c).prop ρ true ∧ (if c.den ρ then (1 : Int) else 0) = 1) ∨ ((normBZ rng c).prop ρ false ∧ (if c.den ρ then (1 : Int) else 0) = 0)
    rw [← normBZ_prop hr, ← normBZ_prop hr]
    cases c.den ρ <;> simp

/-- a leaf in plain arithmetic -/
structure Vz where
  cs : List (BZ × Bool)
  rng : List (Int × Int)
  tag : Nat
  s : List GZ

noncomputable def normVc (v : Vc) : Vz := ⟨v.q.cs.map fun c => (normBZ v.q.rng c.1, c.2), v.q.rng, v.tag, v.s.map (normG v.q.rng)⟩

def factsZ (ρ : Nat → Int) : List (BZ × Bool) → Prop
  | [] => True
  | (c, v) :: l => c.prop ρ v ∧ factsZ ρ l

/-- the variables anew: those from 'i' on are what the list says; those ahead of it as before -/
def newZ (ρ ρ' : Nat → Int) : Nat → List GZ → Prop
  | _, [] => True
  | i, g :: l => g.is ρ (ρ' i) ∧ newZ ρ ρ' (i + 1) l

def sameTo (ρ ρ' : Nat → Int) : Nat → Prop
  | 0 => True
  | n + 1 => ρ' n = ρ n ∧ sameTo ρ ρ' n

theorem sameTo_of {ρ ρ' : Nat → Int} : ∀ {n : Nat}, (∀ i, i < n → ρ' i = ρ i) → sameTo ρ ρ' n
  | 0, _ => trivial
  | n + 1, h => ⟨h n (by omega), sameTo_of fun i hi => h i (by omega)⟩

/-- what a leaf owes, in plain arithmetic -/
def OwesZ (base : Nat) (rng0 : List (Int × Int)) (J Jx : (Nat → Int) → Prop) (ρ : Nat → Int) (v : Vz) : Prop :=
  match v.tag with
  | 0 => ∀ ρ' : Nat → Int, (∀ i, i < base → ρ' i = ρ i) → sameTo ρ ρ' base → newZ ρ ρ' base v.s → (∀ i, base + v.s.length ≤ i → ρ' i = ρ i) → rngP ρ' 0 rng0 ∧ J ρ'
  | 1 => ∀ ρ' : Nat → Int, (∀ i, i < base → ρ' i = ρ i) → sameTo ρ ρ' base → newZ ρ ρ' base v.s → (∀ i, base + v.s.length ≤ i → ρ' i = ρ i) → rngP ρ' 0 rng0 ∧ Jx ρ'
  | _ => ∀ g ∈ v.s, g.is ρ 1

theorem newZ_of {ρ : Nat → Int} {base : Nat} {rng : List (Int × Int)} (hr : RngR ρ rng) {s0 : List G} : ∀ {s : List G} {i : Nat}, (∀ j, j < s.length → s0[i + j]? = s[j]?) → newZ ρ (Sy.sub base s0 ρ) (base + i) (s.map (normG rng))
  | [], _, _ => trivial
  | g :: s, i, h => by
    refine ⟨?_, ?_⟩
    · have h0 := h 0 (by simp)
      have e : Sy.sub base s0 ρ (base + i) = g.den ρ := by
        unfold Sy.sub
        have h0 : s0[i]? = some g := by simpa using h0
        rw [if_neg (by omega), show base + i - base = i by omega, h0]
      rw [e]; exact normG_is hr g
    · have := newZ_of hr (s := s) (i := i + 1) (s0 := s0) (base := base) fun j hj => by
        have := h (j + 1) (by simpa using hj)
        rw [show i + 1 + j = i + (j + 1) by omega]; simpa using this
      exact this

theorem is_one {ρ : Nat → Int} {rng : List (Int × Int)} (hr : RngR ρ rng) {g : G} (h : (normG rng g).is ρ 1) : g.den ρ = 1 := by
  cases g with
  | ofE a => have h : 1 = (norm rng a).den ρ := h; rw [norm_den hr] at h; exact h.symm
  | ofB c =>
    rcases h with ⟨h1, _⟩ | ⟨_, h2⟩
    · show (if c.den ρ then (1 : Int) else 0) = 1
      rw [(normBZ_prop hr).2 h1]; rfl
    · exact absurd h2 (by decide)

theorem factsZ_of {ρ : Nat → Int} {rng : List (Int × Int)} (hr : RngR ρ rng) : ∀ {l : List (B × Bool)}, (∀ c ∈ l, c.1.den ρ = c.2) → factsZ ρ (l.map fun c => (normBZ rng c.1, c.2))
  | [], _ => trivial
  | (c, v) :: l, h => ⟨(normBZ_prop hr).1 (h (c, v) (.head _)), factsZ_of hr (l := l) fun d hd => h d (.tail _ hd)⟩

/-- what a leaf owes is its arithmetic -/
theorem owes_of {base : Nat} {rng0 : List (Int × Int)} {J Jx : (Nat → Int) → Prop} {ρ : Nat → Int} {v : Vc} (hq : PcR ρ v.q)
    (h : factsZ ρ (normVc v).cs → rngP ρ 0 (normVc v).rng → OwesZ base rng0 J Jx ρ (normVc v)) : Owes base ⟨[], rng0⟩ J Jx ρ v := by
  have hr := hq.rng
  have h1 := h (factsZ_of hr hq.cs) (rngP_iff.1 hr)
  obtain ⟨q, tag, s⟩ := v
  have a1 : ∀ i, i < base → Sy.sub base s ρ i = ρ i := fun i hi => by unfold Sy.sub; rw [if_pos hi]
  have a2 : newZ ρ (Sy.sub base s ρ) base (s.map (normG q.rng)) := newZ_of hr (i := 0) fun j _ => by rw [Nat.zero_add]
  have a3 : ∀ i, base + (s.map (normG q.rng)).length ≤ i → Sy.sub base s ρ i = ρ i := fun i hi => by
    rw [List.length_map] at hi
    unfold Sy.sub; rw [if_neg (by omega), List.getElem?_eq_none (by omega)]
  match tag, h1 with
  | 0, h1 =>
    obtain ⟨h2, h3⟩ := h1 _ a1 (sameTo_of a1) a2 a3
    exact ⟨pcR_of h2, h3⟩
  | 1, h1 =>
    obtain ⟨h2, h3⟩ := h1 _ a1 (sameTo_of a1) a2 a3
    exact ⟨pcR_of h2, h3⟩
  | _ + 2, h1 =>
    intro g hg
    exact is_one hr (h1 _ (List.mem_map_of_mem hg))

section raw
variable {ρ : Nat → Int} {a b : E}
theorem e_n {z : Int} : (E.n z).den ρ = z := rfl
theorem e_x {i : Nat} : (E.x i).den ρ = ρ i := rfl
theorem wrap64_eq (z : Int) : IntKind.i64.wrap z = (z + 9223372036854775808) % 18446744073709551616 - 9223372036854775808 := by
  simp only [IntKind.wrap, IntKind.signed, IntKind.bits]
  simp
  split <;> omega
theorem e_add64 : (E.bin .add .i64 a b).den ρ = (a.den ρ + b.den ρ + 9223372036854775808) % 18446744073709551616 - 9223372036854775808 := by
  show wrapZ .i64 (a.den ρ + b.den ρ) = _
  rw [wrapZ_eq, wrap64_eq]
theorem e_sub64 : (E.bin .sub .i64 a b).den ρ = (a.den ρ - b.den ρ + 9223372036854775808) % 18446744073709551616 - 9223372036854775808 := by
  show wrapZ .i64 (a.den ρ - b.den ρ) = _
  rw [wrapZ_eq, wrap64_eq]
theorem e_rem {k : IntKind} : (E.bin .rem k a b).den ρ = if 0 ≤ a.den ρ then a.den ρ % b.den ρ else -((-a.den ρ) % b.den ρ) := by
  show (a.den ρ).tmod (b.den ρ) = _
  split
  · rename_i h; exact Int.tmod_eq_emod_of_nonneg h
  · rename_i h
    rw [← Int.tmod_eq_emod_of_nonneg (a := -a.den ρ) (by omega), Int.neg_tmod, Int.neg_neg]
end raw

/-- all leaves -/
theorem owes_all {base : Nat} {rng0 : List (Int × Int)} {J0 : (Nat → Int) → Prop} {J Jx : (Nat → Int) → (Nat → Int) → Prop} {p : Pc} {o : Option (List Vc)} {lz : List Vz} (he : o.map (List.map normVc) = some lz)
    (h : ∀ v ∈ lz, ∀ ρ, J0 ρ → PcR ρ p → factsZ ρ v.cs → rngP ρ 0 v.rng → OwesZ base rng0 (J ρ) (Jx ρ) ρ v) :
    ∃ l, o = some l ∧ ∀ v ∈ l, ∀ ρ, J0 ρ → PcR ρ p → PcR ρ v.q → Owes base ⟨[], rng0⟩ (J ρ) (Jx ρ) ρ v := by
  obtain ⟨l, h1, rfl⟩ := Option.map_eq_some_iff.1 he
  exact ⟨l, h1, fun v hv ρ hJ hp hq => owes_of hq fun hf hr => h _ (List.mem_map_of_mem hv) ρ hJ hp hf hr⟩

end Go.Sy

/-
  What is proved here: arguments that are slices of integers, bools, and structs of these, as symbolic rows.
  Conditions: none.
-/
namespace Go.Sy
open Go.ChangeShapes Go.WideShapes Go.ChangeAt Go.RowKit

/-- a cell of a parameter: a number or a bool, or a slice -/
inductive Mx where
  | leaf (l : Lf)
  | sl (ls : List Lf)

/-- a parameter -/
inductive Pa where
  | leaf (l : Lf)
  | agg (ls : List Lf)
  | arr (ls : List Lf)
  | mix (ms : List Mx)

def mixFs (mx : TypeId → Option (List Mx)) (P : Program) : List Field → Nat → Nat → Option (List Mx)
  | [], off, n => if off = n then some [] else none
  | f :: fs, off, n => if f.offset = off then (mx f.type).bind fun l => if l.length = P.cellsOf f.type then (mixFs mx P fs (off + l.length) n).map (l ++ ·) else none else none

/-- a type's cells -/
def mixT (P : Program) : Nat → TypeId → Option (List Mx)
  | 0, _ => none
  | d + 1, t =>
    match P.underlying t with
    | some (.int k) => some [.leaf (.int k)]
    | some .bool => some [.leaf .bool]
    | some (.slice e) => (flatT P 8 e).bind fun ls => if ls.length = P.cellsOf e ∧ 0 < ls.length ∧ ls.length < 64 then some [.sl ls] else none
    | some (.struct fs) => mixFs (mixT P d) P fs.toList 0 (P.cellsOf t)
    | some (.array _ _) => (flatT P 8 t).map (·.map .leaf)
    | _ => none

def paOf (P : Program) (t : TypeId) : Option Pa :=
  match P.underlying t with
  | some (.struct _) => match flatT P 8 t with
    | some ls => some (.agg ls)
    | none => (mixT P 8 t).map .mix
  | some (.array _ _) => (flatT P 8 t).map .agg
  | some (.int k) => some (.leaf (.int k))
  | some .bool => some (.leaf .bool)
  | some (.slice e) => (flatT P 8 e).bind fun ls => if ls.length = P.cellsOf e ∧ 0 < ls.length ∧ ls.length < 64 then some (.arr ls) else none
  | _ => none

def mxV : List Mx → Nat → Nat → List V
  | [], _, _ => []
  | .leaf l :: r, i, a => l.v i :: mxV r (i + 1) a
  | .sl ls :: r, i, a => .sarr (4096 + a) ls.length (.x i) :: mxV r (i + 1) (a + 1)

def mxB : List Mx → Nat → Nat → List (Nat × Blk)
  | [], _, _ => []
  | .leaf _ :: r, i, a => mxB r (i + 1) a
  | .sl ls :: r, i, a => (4096 + a, .srow a ls (.x i)) :: mxB r (i + 1) (a + 1)

noncomputable def mxR : List Mx → List (Int × Int)
  | [] => []
  | .leaf l :: r => l.rng :: mxR r
  | .sl _ :: r => (0, 9223372036854775807) :: mxR r

def mxRows : List Mx → Nat
  | [] => 0
  | .leaf _ :: r => mxRows r
  | .sl _ :: r => mxRows r + 1

/-- the parameters' values: from variable i and row a on -/
def paV : List Pa → Nat → Nat → List V
  | [], _, _ => []
  | .leaf l :: r, i, a => l.v i :: paV r (i + 1) a
  | .agg ls :: r, i, a => .agg (cellsV ls i) :: paV r (i + ls.length) a
  | .arr ls :: r, i, a => .sarr (4096 + a) ls.length (.x i) :: paV r (i + 1) (a + 1)
  | .mix ms :: r, i, a => .agg (mxV ms i a) :: paV r (i + ms.length) (a + mxRows ms)

/-- the rows -/
def paB : List Pa → Nat → Nat → List (Nat × Blk)
  | [], _, _ => []
  | .leaf _ :: r, i, a => paB r (i + 1) a
  | .agg ls :: r, i, a => paB r (i + ls.length) a
  | .arr ls :: r, i, a => (4096 + a, .srow a ls (.x i)) :: paB r (i + 1) (a + 1)
  | .mix ms :: r, i, a => mxB ms i a ++ paB r (i + ms.length) (a + mxRows ms)

noncomputable def paR : List Pa → List (Int × Int)
  | [] => []
  | .leaf l :: r => l.rng :: paR r
  | .agg ls :: r => ls.map Lf.rng ++ paR r
  | .arr _ :: r => (0, 9223372036854775807) :: paR r
  | .mix ms :: r => mxR ms ++ paR r

def paRows : List Pa → Nat
  | [] => 0
  | .arr _ :: r => paRows r + 1
  | .mix ms :: r => mxRows ms + paRows r
  | .leaf _ :: r => paRows r
  | .agg _ :: r => paRows r

/-- what is found for a row: its place, and its numbers -/
structure Rw where
  b : Nat
  o : Nat
  z : Nat → Nat → Int

instance : Inhabited Rw := ⟨⟨0, 0, fun _ _ => 0⟩⟩

/-- the names stand for what was found, from variable i and row a on -/
def Found (c : Cx) (i a : Nat) (vals : List Int) (rows : List Rw) : Prop :=
  (∀ j, j < vals.length → c.ρ (i + j) = vals.getD j 0) ∧
  ∀ j, j < rows.length → c.has (4096 + (a + j)) ∧ c.β (4096 + (a + j)) = ((rows.getD j default).b, (rows.getD j default).o) ∧ ∀ r q, r < 64 → c.ρ (rowVar (a + j) r q) = (rows.getD j default).z r q

section
variable {H : Type} {enc : TypeId × Value → H} {P : Program} {W : World} {base : Nat} {sp : Nat → Bool} {held : Bool}

theorem add_none {b o n : Nat} : (⟨b, o, none⟩ : Addr).add n = ⟨b, o + n, none⟩ := by
  unfold Addr.add
  split
  · rename_i h; subst h; rfl
  · simp

theorem mapM_get {α β : Type} {f : α → Option β} : ∀ {l : List α} {ys : List β}, l.mapM f = some ys → ∀ (i : Nat) (x : α), l[i]? = some x → ∃ y, f x = some y ∧ ys[i]? = some y
  | a :: l, ys, h, i, x, hx => by
    rw [List.mapM_cons] at h
    cases h1 : f a with
    | none => simp [h1] at h
    | some y =>
      rw [h1] at h
      cases h2 : l.mapM f with
      | none => simp [h2] at h
      | some ys' =>
        rw [h2] at h
        have h : some (y :: ys') = some ys := h
        simp at h; subst h
        cases i with
        | zero => simp at hx; subst hx; exact ⟨y, h1, rfl⟩
        | succ i => obtain ⟨z, g1, g2⟩ := mapM_get h2 i x (by simpa using hx); exact ⟨z, g1, by simpa using g2⟩

theorem LfsR.get : ∀ {ls : List Lf} {vs : List Value} {r : Nat} {l : Lf}, LfsR ls vs → ls[r]? = some l → ∃ v, vs[r]? = some v ∧ l.R v
  | m :: ls, vs, 0, l, h, hl => by
    obtain ⟨v, t, rfl, h1, _⟩ := h
    simp at hl; subst hl
    exact ⟨v, rfl, h1⟩
  | m :: ls, vs, r + 1, l, h, hl => by
    obtain ⟨v, t, rfl, _, h2⟩ := h
    obtain ⟨x, g1, g2⟩ := LfsR.get h2 (r := r) (by simpa using hl)
    exact ⟨x, by simpa using g1, g2⟩

theorem Lf.is_of {l : Lf} {v : Value} (h : l.R v) : l.Is (valOf v) v := by
  cases l with
  | int k =>
    obtain ⟨n, rfl, hw⟩ := h
    exact ⟨rfl, (wf_rng hw).1, (wf_rng hw).2⟩
  | bool =>
    obtain ⟨b, rfl⟩ := h
    cases b <;> exact ⟨rfl, by decide, by decide⟩
  | str => exact h

/-- a slice's elements -/
theorem slice_open {t e : TypeId} {fuel : Nat} {v : Value} {x : DataW H × List MemPlace} {ls : List Lf} (ht : P.underlying t = some (.slice e)) (hls : flatT P 8 e = some ls) (hlen : ls.length = P.cellsOf e) (hpos : 0 < ls.length)
    (h : DataW.trod enc P W base sp held fuel t [v] = some x) :
    ∃ (n cap : Nat) (rw : Rw), n ≤ 9223372036854775807 ∧ ((0 < n ∧ v = .slice (some ⟨rw.b, rw.o, none⟩) n cap) ∨ (n = 0 ∧ ∃ a, v = .slice a 0 cap ∧ (a = none ↔ rw.z 63 0 = 1))) ∧
      (0 < n → ∃ cs ty fr, W.heap[rw.b]? = some (.cells cs ty fr) ∧ ∀ (q r : Nat) (l : Lf), q < n → ls[r]? = some l → ∃ y, cs[rw.o + (q * ls.length + r)]? = some y ∧ l.Is (rw.z r q) y) := by
  rcases DataW.trod_slice ht h with ⟨h0, _⟩ | ⟨a, len, cap, elems, rest, n, _, h0, _, _, hl, hm, hel, hat, _⟩
  · simp at h0
    exact ⟨0, 0, ⟨0, 0, fun _ _ => 1⟩, by omega, .inr ⟨rfl, none, h0, by simp⟩, fun h => by omega⟩
  · simp at h0
    by_cases hn : len = 0
    · subst hn
      exact ⟨0, cap, ⟨0, 0, fun _ _ => 0⟩, by omega, .inr ⟨rfl, some a, h0, by simp⟩, fun h => by omega⟩
    · -- each element's cells
      have hcell : ∀ q, q < len → ∃ cs', LfsR ls cs' ∧ ∀ r y, cs'[r]? = some y → W.cell? ((a.add (q * P.cellsOf e)).add r) = some y := by
        intro q hq
        have hk := hat q hq
        rw [List.getElem?_eq_getElem (by omega)] at hk
        obtain ⟨cs', h1, h2⟩ := Option.bind_eq_some_iff.1 hk
        refine ⟨cs', (flatT_ok 8 n e ls cs' _ hls h2).1, fun r y hy => ?_⟩
        unfold World.cells? at h1
        split at h1
        · have hr : r < cs'.length := (List.getElem?_eq_some_iff.1 hy).1
          have hlc : cs'.length = P.cellsOf e := by
            rw [(flatT_ok 8 n e ls cs' _ hls h2).1.length, hlen]
          obtain ⟨z, g1, g2⟩ := mapM_get h1 r r (by rw [List.getElem?_range (by omega)])
          rw [hy] at g2
          simp at g2; subst g2
          exact g1
        · simp at h1
      -- the address
      obtain ⟨cs0, hR0, hc0⟩ := hcell 0 (by omega)
      obtain ⟨l0, hl0⟩ : ∃ l, ls[0]? = some l := ⟨ls[0], List.getElem?_eq_getElem hpos⟩
      obtain ⟨y0, hy0, _⟩ := hR0.get hl0
      have ha0 := hc0 0 y0 hy0
      have hspot : a.spot = none := by
        simp only [Nat.zero_mul] at ha0
        have e0 : (a.add 0).add 0 = a := by simp [Addr.add]
        rw [e0] at ha0
        unfold World.cell? at ha0
        split at ha0
        · split at ha0
          · simp at ha0
          · rename_i hs; cases hsp : a.spot <;> simp_all
        · simp at ha0
      have ha : a = ⟨a.block, a.off, none⟩ := by cases a; simp at hspot; simp [hspot]
      have hblk : ∃ cs ty fr, W.heap[a.block]? = some (.cells cs ty fr) := by
        have e0 : (a.add 0).add 0 = a := by simp [Addr.add]
        simp only [Nat.zero_mul] at ha0
        rw [e0] at ha0
        unfold World.cell? at ha0
        split at ha0
        · rename_i c t f hh; exact ⟨_, _, _, hh⟩
        · simp at ha0
      obtain ⟨cs, ty, fr, hb⟩ := hblk
      refine ⟨len, cap, ⟨a.block, a.off, fun r q => valOf (cs.getD (a.off + (q * ls.length + r)) undef)⟩, by unfold maxLen at hm; omega, .inl ⟨by omega, by rw [h0, ← ha]⟩, fun _ => ⟨cs, ty, fr, hb, fun q r l hq hl => ?_⟩⟩
      obtain ⟨cs', hR, hc⟩ := hcell q hq
      obtain ⟨y, hy, hyR⟩ := hR.get hl
      have h5 := hc r y hy
      rw [ha, add_none, add_none, ← hlen] at h5
      have h6 : cs[a.off + (q * ls.length + r)]? = some y := by
        unfold World.cell? at h5
        simp only [hb] at h5
        rw [← Nat.add_assoc]; simpa using h5
      refine ⟨y, h6, ?_⟩
      have h7 : cs.getD (a.off + (q * ls.length + r)) undef = y := by
        rw [Array.getD_eq_getD_getElem?, h6]; rfl
      show l.Is (valOf (cs.getD (a.off + (q * ls.length + r)) undef)) y
      rw [h7]
      exact Lf.is_of hyR

/-- what a slice's cell is -/
def SlR (W : World) (ls : List Lf) (v : Value) : Prop :=
  0 < ls.length ∧ ls.length < 64 ∧ ∃ (n cap : Nat) (rw : Rw), n ≤ 9223372036854775807 ∧ ((0 < n ∧ v = .slice (some ⟨rw.b, rw.o, none⟩) n cap) ∨ (n = 0 ∧ ∃ a, v = .slice a 0 cap ∧ (a = none ↔ rw.z 63 0 = 1))) ∧
    (0 < n → ∃ cs ty fr, W.heap[rw.b]? = some (.cells cs ty fr) ∧ ∀ (q r : Nat) (l : Lf), q < n → ls[r]? = some l → ∃ y, cs[rw.o + (q * ls.length + r)]? = some y ∧ l.Is (rw.z r q) y)

def MxsR (W : World) : List Mx → List Value → Prop
  | [], vs => vs = []
  | .leaf l :: ms, vs => ∃ v r, vs = v :: r ∧ l.R v ∧ MxsR W ms r
  | .sl ls :: ms, vs => ∃ v r, vs = v :: r ∧ SlR W ls v ∧ MxsR W ms r

theorem MxsR.append : ∀ {ms ms' : List Mx} {vs vs' : List Value}, MxsR W ms vs → MxsR W ms' vs' → MxsR W (ms ++ ms') (vs ++ vs')
  | [], _, vs, _, h, h' => by have h : vs = [] := h; subst h; exact h'
  | .leaf l :: ms, _, vs, _, h, h' => by
    obtain ⟨v, r, rfl, h1, h2⟩ := h
    exact ⟨v, _, rfl, h1, h2.append h'⟩
  | .sl ls :: ms, _, vs, _, h, h' => by
    obtain ⟨v, r, rfl, h1, h2⟩ := h
    exact ⟨v, _, rfl, h1, h2.append h'⟩

theorem MxsR.length : ∀ {ms : List Mx} {vs : List Value}, MxsR W ms vs → vs.length = ms.length
  | [], vs, h => by have h : vs = [] := h; subst h; rfl
  | .leaf l :: ms, vs, h => by
    obtain ⟨v, r, rfl, _, h2⟩ := h
    simp [h2.length]
  | .sl ls :: ms, vs, h => by
    obtain ⟨v, r, rfl, _, h2⟩ := h
    simp [h2.length]

theorem MxsR.of_flat : ∀ {ls : List Lf} {vs : List Value}, LfsR ls vs → MxsR W (ls.map .leaf) vs
  | [], vs, h => h
  | l :: ls, vs, h => by
    obtain ⟨v, r, rfl, h1, h2⟩ := h
    exact ⟨v, r, rfl, h1, MxsR.of_flat h2⟩

theorem mixFs_ok {mx : TypeId → Option (List Mx)} {rd : TypeId → List Value → Option (DataW H × List MemPlace)} (hf : ∀ t l cs x, mx t = some l → rd t cs = some x → MxsR W l cs) : ∀ {fs : List Field} {off n : Nat} {sh : List Mx} {cs : List Value} {xs : List (DataW H × List MemPlace)},
    cs.length = n → off ≤ n → mixFs mx P fs off n = some sh → fs.mapM (fun f => rd f.type ((cs.drop f.offset).take (P.cellsOf f.type))) = some xs → MxsR W sh (cs.drop off)
  | [], off, n, sh, cs, xs, hn, ho, h, hx => by
    unfold mixFs at h
    split at h
    · rename_i e
      simp at h; subst h
      exact List.drop_eq_nil_of_le (by omega)
    · simp at h
  | f :: fs, off, n, sh, cs, xs, hn, ho, h, hm => by
    unfold mixFs at h
    split at h
    · rename_i e
      obtain ⟨l, h1, h2⟩ := Option.bind_eq_some_iff.1 h
      split at h2
      · rename_i hl
        obtain ⟨r, h3, rfl⟩ := Option.map_eq_some_iff.1 h2
        rw [List.mapM_cons] at hm
        cases hx : rd f.type ((cs.drop f.offset).take (P.cellsOf f.type)) with
        | none => simp [hx] at hm
        | some x =>
          rw [hx] at hm
          cases hy : fs.mapM (fun f => rd f.type ((cs.drop f.offset).take (P.cellsOf f.type))) with
          | none => simp [hy] at hm
          | some ys =>
            have h4 := hf _ _ _ _ h1 hx
            have hlen := h4.length
            rw [List.length_take, List.length_drop] at hlen
            have hle : off + l.length ≤ n := by omega
            have h5 := mixFs_ok hf hn hle h3 hy
            have e2 : cs.drop off = (cs.drop f.offset).take (P.cellsOf f.type) ++ cs.drop (off + l.length) := by
              rw [e, ← hl, ← List.drop_drop, List.take_append_drop]
            rw [e2]
            exact h4.append h5
      · simp at h2
    · simp at h

theorem mixT_ok : ∀ (d : Nat) (n : Nat) (t : TypeId) (l : List Mx) (cs : List Value) (x : DataW H × List MemPlace), mixT P d t = some l → DataW.trod enc P W base sp held n t cs = some x → MxsR W l cs
  | 0, _, _, _, _, _, h, _ => by simp [mixT] at h
  | d + 1, 0, _, _, _, _, _, h => by simp [DataW.trod] at h
  | d + 1, n + 1, t, l, cs, x, h, hx => by
    unfold mixT at h
    split at h
    · rename_i k hu
      simp at h; subst h
      obtain ⟨m, rfl, rfl, hw⟩ := DataW.trod_int hu hx
      exact ⟨_, [], rfl, ⟨m, rfl, hw⟩, rfl⟩
    · rename_i hu
      simp at h; subst h
      obtain ⟨b, rfl, rfl⟩ := DataW.trod_bool hu hx
      exact ⟨_, [], rfl, ⟨b, rfl⟩, rfl⟩
    · rename_i e hu
      obtain ⟨ls, h3, h4⟩ := Option.bind_eq_some_iff.1 h
      split at h4
      · rename_i hc
        obtain ⟨hc1, hc2, hc3⟩ := hc
        simp at h4; subst h4
        obtain ⟨v, rfl⟩ : ∃ v, cs = [v] := by
          rcases DataW.trod_slice hu hx with ⟨h0, _⟩ | ⟨a, len, cap, elems, rest, m, _, h0, _⟩
          · exact ⟨_, h0⟩
          · exact ⟨_, h0⟩
        exact ⟨v, [], rfl, ⟨hc2, hc3, slice_open hu h3 hc1 hc2 hx⟩, rfl⟩
      · simp at h4
    · rename_i fs hu
      have hx' := hx
      simp only [DataW.trod, hu] at hx'
      split at hx'
      · rename_i hlen
        obtain ⟨xs, h1, rfl⟩ := Option.map_eq_some_iff.1 hx'
        have := mixFs_ok (W := W) (rd := DataW.trod enc P W base sp held n) (fun t l cs x h hx => mixT_ok d n t l cs x h hx) hlen (Nat.zero_le _) h h1
        simpa using this
      · simp at hx'
    · rename_i hu
      obtain ⟨ls, h3, rfl⟩ := Option.map_eq_some_iff.1 h
      exact MxsR.of_flat (flatT_ok 8 (n + 1) t ls cs x h3 hx).1
    · simp at h

theorem Found.split {c : Cx} {i a : Nat} {v1 v2 : List Int} {r1 r2 : List Rw} (h : Found c i a (v1 ++ v2) (r1 ++ r2)) : Found c i a v1 r1 ∧ Found c (i + v1.length) (a + r1.length) v2 r2 := by
  obtain ⟨h1, h2⟩ := h
  refine ⟨⟨fun j hj => ?_, fun j hj => ?_⟩, fun j hj => ?_, fun j hj => ?_⟩
  · have := h1 j (by simp; omega)
    simpa [List.getD_eq_getElem?_getD, List.getElem?_append_left hj] using this
  · have := h2 j (by simp; omega)
    simpa [List.getD_eq_getElem?_getD, List.getElem?_append_left hj] using this
  · have := h1 (v1.length + j) (by simp; omega)
    rw [show i + (v1.length + j) = i + v1.length + j by omega] at this
    simpa [List.getD_eq_getElem?_getD, List.getElem?_append_right] using this
  · have := h2 (r1.length + j) (by simp; omega)
    rw [show a + (r1.length + j) = a + r1.length + j by omega] at this
    simpa [List.getD_eq_getElem?_getD, List.getElem?_append_right] using this

/-- the cells of one parameter -/
theorem mx_open : ∀ {ms : List Mx} {vs : List Value}, MxsR W ms vs →
    ∃ (vals : List Int) (rows : List Rw), vals.length = ms.length ∧ (mxR ms).length = ms.length ∧ rows.length = mxRows ms ∧ (∀ j lo hi, (mxR ms)[j]? = some (lo, hi) → lo ≤ vals.getD j 0 ∧ vals.getD j 0 ≤ hi) ∧
      ∀ (c : Cx) (i a : Nat), Found c i a vals rows → VRs c (mxV ms i a) vs ∧ ∀ x ∈ mxB ms i a, c.has x.1 ∧ BlkR c W (c.β x.1) x.2
  | [], vs, h => by
    have h : vs = [] := h
    subst h
    exact ⟨[], [], rfl, rfl, rfl, fun j lo hi h => by simp [mxR] at h, fun c i a _ => ⟨VRs.nil, fun x hx => by simp [mxB] at hx⟩⟩
  | .leaf l :: ms, vs, h => by
    obtain ⟨v, r, rfl, h1, h2⟩ := h
    obtain ⟨vals, rows, g1, g0, g2, g3, g4⟩ := mx_open h2
    refine ⟨valOf v :: vals, rows, by simp [g1], by simp [mxR, g0], g2, fun j lo hi hj => ?_, fun c i a hF => ?_⟩
    · cases j with
      | zero =>
        have hj : some l.rng = some (lo, hi) := hj
        have := Lf.rng_ok h1
        rw [Option.some.inj hj] at this
        exact this
      | succ j => exact g3 j lo hi (by simpa [mxR] using hj)
    · obtain ⟨hF1, hF2⟩ := Found.split (v1 := [valOf v]) (v2 := vals) (r1 := []) (r2 := rows) hF
      obtain ⟨m1, m2⟩ := g4 c (i + 1) a hF2
      have hv : c.ρ i = valOf v := by simpa using hF1.1 0 (by simp)
      exact ⟨VRs.cons (Lf.v_ok h1 hv) m1, m2⟩
  | .sl ls :: ms, vs, h => by
    obtain ⟨v, r, rfl, ⟨hl0, hl1, len, cap, rw', k1, k2, k3⟩, h2⟩ := h
    obtain ⟨vals, rows, g1, g0, g2, g3, g4⟩ := mx_open h2
    refine ⟨(len : Int) :: vals, rw' :: rows, by simp [g1], by simp [mxR, g0], by simp [mxRows, g2], fun j lo hi hj => ?_, fun c i a hF => ?_⟩
    · cases j with
      | zero =>
        simp [mxR] at hj
        obtain ⟨rfl, rfl⟩ := hj
        simp; omega
      | succ j => exact g3 j lo hi (by simpa [mxR] using hj)
    · obtain ⟨hF1, hF2⟩ := hF
      have hlen : c.ρ i = (len : Int) := by have := hF1 0 (by simp); simpa using this
      obtain ⟨b1, b2, b3⟩ := hF2 0 (by simp)
      have b2 : c.β (4096 + a) = (rw'.b, rw'.o) := by simpa using b2
      obtain ⟨_, hF'⟩ := Found.split (v1 := [(len : Int)]) (v2 := vals) (r1 := [rw']) (r2 := rows) ⟨hF1, hF2⟩
      obtain ⟨m1, m2⟩ := g4 c (i + 1) (a + 1) hF'
      refine ⟨VRs.cons (VR.sarr.2 ⟨by simpa using b1, len, cap, hlen, k1, ?_⟩) m1, ?_⟩
      · unfold Cx.ad
        rw [b2]
        rcases k2 with ⟨p1, p2⟩ | p
        · exact .inl ⟨p1, p2⟩
        · obtain ⟨q1, a', q2, q3⟩ := p
          refine .inr ⟨q1, a', q2, ?_⟩
          have b4 := b3 63 0 (by omega)
          rw [show 4096 + a - 4096 = a by omega]
          rw [show a + 0 = a from rfl] at b4
          rw [b4]; exact q3
      · intro x hx
        have hx : x ∈ (4096 + a, Blk.srow a ls (.x i)) :: mxB ms (i + 1) (a + 1) := hx
        cases hx with
        | tail _ hx => exact m2 x hx
        | head =>
          refine ⟨by simpa using b1, fun hpos => ?_⟩
          have hpos : 0 < c.ρ i := hpos
          obtain ⟨cs, ty, fr, f1, f2⟩ := k3 (by omega)
          rw [b2]
          refine ⟨cs, ty, fr, f1, fun q r l hq hl => ?_⟩
          have hq : (q : Int) < c.ρ i := hq
          obtain ⟨y, y1, y2⟩ := f2 q r l (by omega) hl
          have hr : r < 64 := by
            have := (List.getElem?_eq_some_iff.1 hl).1
            omega
          have b3' := b3 r q hr
          have b3' : c.ρ (rowVar a r q) = rw'.z r q := by simpa using b3'
          exact ⟨y, y1, by rw [b3']; exact y2⟩

/-- the arguments -/
theorem pa_open : ∀ {ts : List TypeId} {vs : List Value} {ds : List (DataW H)} {ps : List MemPlace} {pas : List Pa} {r : Reach} {b0 : Nat}, DataW.TrodAll enc P W base sp held ts vs ds ps →
    (∀ (j : Nat) t v, ts[j]? = some t → vs[j]? = some v → Value.okWide P W r b0 t v) → ts.mapM (paOf P) = some pas →
    ∃ (vals : List Int) (rows : List Rw), vals.length = (paR pas).length ∧ rows.length = paRows pas ∧ (∀ j lo hi, (paR pas)[j]? = some (lo, hi) → lo ≤ vals.getD j 0 ∧ vals.getD j 0 ≤ hi) ∧
      ∀ (c : Cx) (i a : Nat), Found c i a vals rows → VRs c (paV pas i a) vs ∧ ∀ x ∈ paB pas i a, c.has x.1 ∧ BlkR c W (c.β x.1) x.2
  | [], [], [], ps, pas, r, b0, h, _, hs => by
    simp at hs; subst hs
    exact ⟨[], [], rfl, rfl, fun j lo hi h => by simp [paR] at h, fun c i a _ => ⟨VRs.nil, fun x hx => by simp [paB] at hx⟩⟩
  | t :: ts, v :: vs, d :: ds, ps, pas, r, b0, h, hval, hs => by
    obtain ⟨p, q, h1, h2, rfl⟩ := h
    rw [List.mapM_cons] at hs
    cases ha : paOf P t with
    | none => simp [ha] at hs
    | some s =>
      rw [ha] at hs
      cases hb : ts.mapM (paOf P) with
      | none => simp [hb] at hs
      | some ss =>
        rw [hb] at hs
        have hs : some (s :: ss) = some pas := hs
        simp at hs; subst hs
        obtain ⟨vals, rows, g1, g2, g3, g4⟩ := pa_open h2 (fun j t v ht hv => hval (j + 1) t v (by simpa using ht) (by simpa using hv)) hb
        obtain ⟨n, hn⟩ := h1
        have hv0 := hval 0 t v rfl rfl
        -- plain cells
        have plain : ∀ (ls : List Lf) (cs : List Value), LfsR ls cs → (paR (s :: ss) = ls.map Lf.rng ++ paR ss) → paRows (s :: ss) = paRows ss → (∀ i a, paB (s :: ss) i a = paB ss (i + ls.length) a) →
            (∀ i a, ∃ v0, paV (s :: ss) i a = v0 :: paV ss (i + ls.length) a ∧ ∀ c : Cx, VRs c (cellsV ls i) cs → VR c v0 v) →
            ∃ (vals : List Int) (rows : List Rw), vals.length = (paR (s :: ss)).length ∧ rows.length = paRows (s :: ss) ∧ (∀ j lo hi, (paR (s :: ss))[j]? = some (lo, hi) → lo ≤ vals.getD j 0 ∧ vals.getD j 0 ≤ hi) ∧
              ∀ (c : Cx) (i a : Nat), Found c i a vals rows → VRs c (paV (s :: ss) i a) (v :: vs) ∧ ∀ x ∈ paB (s :: ss) i a, c.has x.1 ∧ BlkR c W (c.β x.1) x.2 := by
          intro ls cs hR e1 e2 e3 e4
          have hlen := hR.length
          have hget : ∀ j, j < cs.length → (cs.map valOf ++ vals).getD j 0 = valOf (cs.getD j undef) := by
            intro j hj
            simp [List.getD_eq_getElem?_getD, List.getElem?_append_left (show j < (cs.map valOf).length by simpa using hj), hj]
          have hget2 : ∀ j, (cs.map valOf ++ vals).getD (cs.length + j) 0 = vals.getD j 0 := by
            intro j
            simp [List.getD_eq_getElem?_getD, List.getElem?_append_right]
          refine ⟨cs.map valOf ++ vals, rows, by rw [e1]; simp [hlen, g1], by rw [e2]; exact g2, fun j lo hi hj => ?_, fun c i a hF => ?_⟩
          · rw [e1] at hj
            by_cases hlt : j < cs.length
            · rw [List.getElem?_append_left (by simp; omega)] at hj
              rw [hget j hlt]
              exact rng_open hR j lo hi hj
            · rw [List.getElem?_append_right (by simp; omega)] at hj
              have := g3 _ lo hi hj
              simp only [List.length_map] at this
              rw [show j = cs.length + (j - ls.length) by omega, hget2]
              exact this
          · obtain ⟨hF1, hF2⟩ := hF
            have hF' : Found c (i + ls.length) a vals rows := ⟨fun j hj => by
              rw [show i + ls.length + j = i + (cs.length + j) by omega, hF1 _ (by simp; omega), hget2], hF2⟩
            obtain ⟨k1, k2⟩ := g4 c (i + ls.length) a hF'
            obtain ⟨v0, f1, f2⟩ := e4 i a
            refine ⟨by rw [f1]; exact VRs.cons (f2 c (cellsV_ok hR fun j hj => by rw [hF1 j (by simp; omega), hget j hj])) k1, by rw [e3]; exact k2⟩
        have leafCase : ∀ (l : Lf), s = .leaf l → flatT P 8 t = some [l] → v.cells.toList = [v] → ∃ (vals : List Int) (rows : List Rw), vals.length = (paR (s :: ss)).length ∧ rows.length = paRows (s :: ss) ∧ (∀ j lo hi, (paR (s :: ss))[j]? = some (lo, hi) → lo ≤ vals.getD j 0 ∧ vals.getD j 0 ≤ hi) ∧
              ∀ (c : Cx) (i a : Nat), Found c i a vals rows → VRs c (paV (s :: ss) i a) (v :: vs) ∧ ∀ x ∈ paB (s :: ss) i a, c.has x.1 ∧ BlkR c W (c.β x.1) x.2 := by
          rintro l rfl hl hc
          have h3 := (flatT_ok 8 n t [l] _ _ hl hn).1
          rw [hc] at h3
          exact plain [l] [v] h3 rfl rfl (fun _ _ => rfl) (fun i a => ⟨_, rfl, fun c hV => by
            obtain ⟨x, ys, e, g, _⟩ := VRs.cons_iff.1 hV
            simp at e
            rw [e.1]; exact g⟩)
        unfold paOf at ha
        split at ha
        · rename_i fs hu
          simp only [Value.okWide, hu] at hv0
          obtain ⟨cs, rfl, _⟩ := hv0
          split at ha
          · rename_i l h3
            obtain rfl := Option.some.inj ha
            exact plain l cs.toList (flatT_ok 8 n t l _ _ h3 hn).1 rfl rfl (fun _ _ => rfl) (fun i a => ⟨_, rfl, fun c hV => VR.agg.2 ⟨cs, rfl, hV⟩⟩)
          · obtain ⟨ms, h3, rfl⟩ := Option.map_eq_some_iff.1 ha
            obtain ⟨vals1, rows1, k1, k0, k2, k3, k4⟩ := mx_open (mixT_ok 8 n t ms _ _ h3 hn)
            refine ⟨vals1 ++ vals, rows1 ++ rows, by simp [paR, k1, k0, g1], by simp [paRows, k2, g2], fun j lo hi hj => ?_, fun c i a hF => ?_⟩
            · have hj : (mxR ms ++ paR ss)[j]? = some (lo, hi) := hj
              by_cases hlt : j < ms.length
              · rw [List.getElem?_append_left (by omega)] at hj
                have := k3 j lo hi hj
                simpa [List.getD_eq_getElem?_getD, List.getElem?_append_left (show j < vals1.length by omega)] using this
              · rw [List.getElem?_append_right (by omega)] at hj
                have := g3 _ lo hi hj
                rw [k0] at this
                simpa [List.getD_eq_getElem?_getD, List.getElem?_append_right (show vals1.length ≤ j by omega), k1] using this
            · obtain ⟨hF1, hF2⟩ := Found.split hF
              rw [k1, k2] at hF2
              obtain ⟨m1, m2⟩ := k4 c i a hF1
              obtain ⟨n1, n2⟩ := g4 c (i + ms.length) (a + mxRows ms) hF2
              refine ⟨VRs.cons (VR.agg.2 ⟨cs, rfl, m1⟩) n1, fun x hx => ?_⟩
              have hx : x ∈ mxB ms i a ++ paB ss (i + ms.length) (a + mxRows ms) := hx
              rcases List.mem_append.1 hx with hx | hx
              · exact m2 x hx
              · exact n2 x hx
        · rename_i m e hu
          obtain ⟨l, h3, rfl⟩ := Option.map_eq_some_iff.1 ha
          simp only [Value.okWide, hu] at hv0
          obtain ⟨cs, rfl, _⟩ := hv0
          exact plain l cs.toList (flatT_ok 8 n t l _ _ h3 hn).1 rfl rfl (fun _ _ => rfl) (fun i a => ⟨_, rfl, fun c hV => VR.agg.2 ⟨cs, rfl, hV⟩⟩)
        · rename_i k hu
          simp at ha; subst ha
          obtain ⟨m, rfl⟩ := okWide_int hu hv0
          exact leafCase _ rfl (by simp [flatT, hu]) rfl
        · rename_i hu
          simp at ha; subst ha
          obtain ⟨b, e, _⟩ := open_bool hu hv0 ⟨n, hn⟩
          subst e
          exact leafCase _ rfl (by simp [flatT, hu]) rfl
        · rename_i e hu
          obtain ⟨ls, h3, h4⟩ := Option.bind_eq_some_iff.1 ha
          split at h4
          · rename_i hc
            obtain ⟨hc1, hc2, hc3⟩ := hc
            simp at h4; subst h4
            have hvc : v.cells.toList = [v] := by
              simp only [Value.okWide, hu] at hv0
              cases v <;> first | rfl | (simp [Cell.okWide, Cell.ok, hu] at hv0)
            rw [hvc] at hn
            obtain ⟨len, cap, rw', k1, k2, k3⟩ := slice_open hu h3 hc1 hc2 hn
            refine ⟨(len : Int) :: vals, rw' :: rows, by simp [paR, g1], by simp [paRows, g2], fun j lo hi hj => ?_, fun c i a hF => ?_⟩
            · cases j with
              | zero =>
                simp [paR] at hj
                obtain ⟨rfl, rfl⟩ := hj
                simp; omega
              | succ j => exact g3 j lo hi (by simpa [paR] using hj)
            · obtain ⟨hF1, hF2⟩ := hF
              have hlen : c.ρ i = (len : Int) := by have := hF1 0 (by simp); simpa using this
              obtain ⟨b1, b2, b3⟩ := hF2 0 (by simp)
              have b2 : c.β (4096 + a) = (rw'.b, rw'.o) := by simpa using b2
              have hF' : Found c (i + 1) (a + 1) vals rows := ⟨fun j hj => by
                have := hF1 (j + 1) (by simpa using hj)
                rw [show i + 1 + j = i + (j + 1) by omega]; simpa using this, fun j hj => by
                have := hF2 (j + 1) (by simpa using hj)
                rw [show a + 1 + j = a + (j + 1) by omega]; simpa using this⟩
              obtain ⟨m1, m2⟩ := g4 c (i + 1) (a + 1) hF'
              refine ⟨VRs.cons (VR.sarr.2 ⟨by simpa using b1, len, cap, hlen, k1, ?_⟩) m1, ?_⟩
              · unfold Cx.ad
                rw [b2]
                rcases k2 with ⟨p1, p2⟩ | p
                · exact .inl ⟨p1, p2⟩
                · obtain ⟨q1, a', q2, q3⟩ := p
                  refine .inr ⟨q1, a', q2, ?_⟩
                  have b4 := b3 63 0 (by omega)
                  rw [show 4096 + a - 4096 = a by omega]
                  rw [show a + 0 = a from rfl] at b4
                  rw [b4]; exact q3
              · intro x hx
                have hx : x ∈ (4096 + a, Blk.srow a ls (.x i)) :: paB ss (i + 1) (a + 1) := hx
                cases hx with
                | tail _ hx => exact m2 x hx
                | head =>
                  refine ⟨by simpa using b1, fun hpos => ?_⟩
                  have hpos : 0 < c.ρ i := hpos
                  obtain ⟨cs, ty, fr, f1, f2⟩ := k3 (by omega)
                  rw [b2]
                  refine ⟨cs, ty, fr, f1, fun q r l hq hl => ?_⟩
                  have hq : (q : Int) < c.ρ i := hq
                  obtain ⟨y, y1, y2⟩ := f2 q r l (by omega) hl
                  have hr : r < 64 := by
                    have := (List.getElem?_eq_some_iff.1 hl).1
                    omega
                  have b3' := b3 r q hr
                  have b3' : c.ρ (rowVar a r q) = rw'.z r q := by simpa using b3'
                  exact ⟨y, y1, by rw [b3']; exact y2⟩
          · simp at h4
        · simp at ha
  | [], _ :: _, _, _, _, _, _, h, _, _ => by cases h
  | [], [], _ :: _, _, _, _, _, h, _, _ => by cases h
  | _ :: _, [], _, _, _, _, _, h, _, _ => by cases h
  | _ :: _, _ :: _, [], _, _, _, _, h, _, _ => by cases h
end

end Go.Sy

/-
  What is proved here: a law's code is entered with its arguments as the evaluator has them.
  Conditions: none.
-/
namespace Go.Sy
open Go.ChangeShapes Go.WideShapes Go.ChangeAt Go.RowKit

noncomputable def setAll (l : List (Nat × Blk)) (t : Tr Blk) : Tr Blk := (List.rec (motive := fun _ => Tr Blk) (t) (fun x _ ih => ih.set x.1 x.2) (l))

/-- the memory at the start: what is laid, and the rows -/
noncomputable def mem1 (g : List (Nat × List V)) (pas : List Pa) : Mem := ⟨setAll (paB pas 0 0) (layG g), Nat.add 4096 (paRows pas), .nil, 0⟩

def cx1 (bs : Nat → Nat) (vals : List Int) (rows : List Rw) : Cx :=
  ⟨fun i => if i < 3072 then (i, 0) else if i < 4096 then (bs (i - 3072), 0) else ((rows.getD (i - 4096) default).b, (rows.getD (i - 4096) default).o), fun _ => 0,
   fun k => if k < 1000 then vals.getD k 0 else (rows.getD ((k - 1000) % 4096 / 64) default).z ((k - 1000) % 64) ((k - 1000) / 4096), 4096 + rows.length, 0, fun i => i < 4096 + rows.length, fun _ h => h⟩

theorem cx1_found {bs : Nat → Nat} {vals : List Int} {rows : List Rw} (h1 : vals.length ≤ 1000) (h2 : rows.length ≤ 64) : Found (cx1 bs vals rows) 0 0 vals rows := by
  refine ⟨fun j hj => ?_, fun j hj => ⟨?_, ?_, fun r q hr => ?_⟩⟩
  · show (if 0 + j < 1000 then vals.getD (0 + j) 0 else _) = _
    rw [if_pos (by omega), Nat.zero_add]
  · show 4096 + (0 + j) < 4096 + rows.length; omega
  · show (if 4096 + (0 + j) < 3072 then _ else if 4096 + (0 + j) < 4096 then _ else ((rows.getD (4096 + (0 + j) - 4096) default).b, (rows.getD (4096 + (0 + j) - 4096) default).o)) = _
    rw [if_neg (by omega), if_neg (by omega), show 4096 + (0 + j) - 4096 = j by omega]
  · show (if rowVar (0 + j) r q < 1000 then _ else (rows.getD ((rowVar (0 + j) r q - 1000) % 4096 / 64) default).z ((rowVar (0 + j) r q - 1000) % 64) ((rowVar (0 + j) r q - 1000) / 4096)) = _
    have e : rowVar (0 + j) r q - 1000 = (r + 64 * j) + 4096 * q := by unfold rowVar; omega
    rw [if_neg (by unfold rowVar; omega), e]
    have e1 : (r + 64 * j + 4096 * q) % 4096 / 64 = j := by omega
    have e2 : (r + 64 * j + 4096 * q) % 64 = r := by omega
    have e3 : (r + 64 * j + 4096 * q) / 4096 = q := by omega
    rw [e1, e2, e3]

theorem setAll_get {i : Nat} {b : Blk} {t : Tr Blk} : ∀ {l : List (Nat × Blk)}, (setAll l t).get i = some b → (i, b) ∈ l ∨ t.get i = some b
  | [], h => .inr h
  | x :: l, h => by
    have h : ((setAll l t).set x.1 x.2).get i = some b := h
    rw [Tr.get_set] at h
    split at h
    · rename_i e
      have e2 : x.2 = b := by simpa using h
      have e3 : (i, b) = x := by rw [e, ← e2]
      exact .inl (by rw [e3]; exact .head _)
    · exact (setAll_get h).imp (.tail _) id

theorem mxB_row : ∀ {ms : List Mx} {i a : Nat} {x : Nat × Blk}, x ∈ mxB ms i a → x.2.wrB = false ∧ x.2.plB = false
  | [], _, _, _, h => by simp [mxB] at h
  | .leaf _ :: r, i, a, x, h => mxB_row (ms := r) (i := i + 1) (a := a) h
  | .sl ls :: r, i, a, x, h => by
    have h : x ∈ (4096 + a, Blk.srow a ls (.x i)) :: mxB r (i + 1) (a + 1) := h
    cases h with
    | head => exact ⟨rfl, rfl⟩
    | tail _ h => exact mxB_row h

theorem paB_row : ∀ {pas : List Pa} {i a : Nat} {x : Nat × Blk}, x ∈ paB pas i a → x.2.wrB = false ∧ x.2.plB = false
  | [], _, _, _, h => by simp [paB] at h
  | .leaf _ :: r, i, a, x, h => paB_row (pas := r) (i := i + 1) (a := a) h
  | .agg ls :: r, i, a, x, h => paB_row (pas := r) (i := i + ls.length) (a := a) h
  | .arr ls :: r, i, a, x, h => by
    have h : x ∈ (4096 + a, Blk.srow a ls (.x i)) :: paB r (i + 1) (a + 1) := h
    cases h with
    | head => exact ⟨rfl, rfl⟩
    | tail _ h => exact paB_row h
  | .mix ms :: r, i, a, x, h => by
    have h : x ∈ mxB ms i a ++ paB r (i + ms.length) (a + mxRows ms) := h
    rcases List.mem_append.1 h with h | h
    · exact mxB_row h
    · exact paB_row h

/-- the start -/
theorem law_start {P : Program} {fn : Func} {g : List (Nat × List V)} {pas : List Pa} (hpa : fn.params.toList.mapM (paOf P) = some pas) (hn : (Nat.ble (paR pas).length 1000 && Nat.ble (paRows pas) 64) = true) (hfx : allL (fun x => fixed x.2) g = true)
    {H : Type} {enc : TypeId × Value → H} {W : World} {base : Nat} {args : Array Value} {ds : List (DataW H)} {ps : List MemPlace} (hval : ∀ (j : Nat) t v, fn.params[j]? = some t → args[j]? = some v → Value.okWide P W .any base t v)
    (hA : DataW.TrodAll enc P W 0 (fun _ => true) true fn.params.toList args.toList ds ps) (hw : LaidW W g) :
    ∃ c : Cx, MemR c (mem1 g pas) W ∧ PcR c.ρ ⟨[], paR pas⟩ ∧ GlobR c ∧ VRs c (paV pas 0 0) args.toList ∧ ∀ b, ¬ Wr c (mem1 g pas) b := by
  obtain ⟨bs, hw⟩ := hw
  obtain ⟨vals, rows, g1, g2, g3, g4⟩ := pa_open hA (fun j t v ht hv => hval j t v (by simpa using ht) (by simpa using hv)) hpa
  rw [Bool.and_eq_true, ble_iff, ble_iff] at hn
  have hF := cx1_found (bs := bs) (vals := vals) (rows := rows) (by omega) (by omega)
  obtain ⟨hV, hB⟩ := g4 _ 0 0 hF
  have hp : PcR (cx1 bs vals rows).ρ ⟨[], paR pas⟩ := ⟨fun c hc => by simp at hc, fun i lo hi hr => by
    have := g3 i lo hi hr
    have hi' : i < vals.length := by rw [g1]; exact (List.getElem?_eq_some_iff.1 hr).1
    have e := hF.1 i hi'
    rw [Nat.zero_add] at e
    rw [e]; exact this⟩
  have hG : GlobR (cx1 bs vals rows) := ⟨by show 4096 ≤ 4096 + rows.length; omega, fun i hi => ⟨show i < 4096 + rows.length by omega, if_pos hi⟩⟩
  have hly : LyR (cx0 bs fun _ => 0) (cx1 bs vals rows) := fun i h5 h6 => ⟨show i < 4096 + rows.length by omega, by
    show (if i < 3072 then (i, 0) else if i < 4096 then (bs (i - 3072), 0) else _ : Nat × Nat).1 = (if i < 3072 then i else bs (i - 3072))
    rw [if_neg (by omega), if_pos h6, if_neg (by omega)]⟩
  have hlay : ∀ i b, (layG g).get i = some b → (cx1 bs vals rows).has i ∧ BlkR (cx1 bs vals rows) W ((cx1 bs vals rows).β i) b ∧ b.wrB = false ∧ b.plB = false := by
    intro i b hb
    obtain ⟨l, h1, rfl⟩ := layG_get hb
    obtain ⟨h2, h3⟩ := hw (fun _ => 0) _ h1
    refine ⟨Nat.lt_of_lt_of_le h2 hG.1, ?_, (lyB_wr _).1, (lyB_wr _).2⟩
    refine lyB_fix hly (allL_ok hfx _ h1) ?_ h3
    have h2 : i < 4096 := h2
    by_cases h8 : i < 3072
    · have e1 : (cx0 bs fun _ => 0).β i = (i, 0) := by show (if i < 3072 then i else _, 0) = _; rw [if_pos h8]
      show ((cx1 bs vals rows).β i).1 = ((cx0 bs fun _ => 0).β i).1 ∧ (i < 3072 → (cx1 bs vals rows).β i = (cx0 bs fun _ => 0).β i)
      rw [e1, (hG.2 i h8).2]
      exact ⟨rfl, fun _ => rfl⟩
    · exact ⟨(hly i (by omega) h2).2, fun h => absurd h h8⟩
  have hblk : ∀ i b, (mem1 g pas).tr.get i = some b → (cx1 bs vals rows).has i ∧ BlkR (cx1 bs vals rows) W ((cx1 bs vals rows).β i) b ∧ b.wrB = false ∧ b.plB = false := by
    intro i b hb
    rcases setAll_get (show (setAll (paB pas 0 0) (layG g)).get i = some b from hb) with h1 | h1
    · obtain ⟨k1, k2⟩ := hB _ h1
      obtain ⟨k3, k4⟩ := paB_row h1
      exact ⟨k1, k2, k3, k4⟩
    · exact hlay i b h1
  have hm : MemR (cx1 bs vals rows) (mem1 g pas) W := by
    refine ⟨by show 4096 + rows.length = 4096 + paRows pas; rw [g2], rfl, fun i b hb => .of (hblk i b hb).1 (hblk i b hb).2.1, ?_, ?_⟩
    · intro i j b b' hb hb' _ hap _ _
      obtain ⟨_, _, k1, k2⟩ := hblk i b hb
      obtain ⟨_, _, k3, k4⟩ := hblk j b' hb'
      unfold Blk.apt at hap
      rw [k1, k2, k3] at hap
      exact absurd hap (by simp)
    · intro t n ht
      simp [mem1, Tr.get] at ht
  refine ⟨cx1 bs vals rows, hm, hp, hG, hV, fun b hb => ?_⟩
  obtain ⟨i, blk, k1, k2, _⟩ := hb
  rw [(hblk i blk k1).2.2.1] at k2
  simp at k2

/-- the law's call, out of its code -/
theorem law_code1 {P : Program} {f : FuncId} {fn : Func} {co : Code} {g : List (Nat × List V)} {pas : List Pa} (hpa : fn.params.toList.mapM (paOf P) = some pas) (hn : (Nat.ble (paR pas).length 1000 && Nat.ble (paRows pas) 64) = true)
    (hf : P.funcs[f]? = some fn) (hb : fn.body = some co) (hfx : allL (fun x => fixed x.2) g = true)
    {H : Type} {enc : TypeId × Value → H} {W : World} {base : Nat} {args : Array Value} {ds : List (DataW H)} {ps : List MemPlace} (hval : ∀ (j : Nat) t v, fn.params[j]? = some t → args[j]? = some v → Value.okWide P W .any base t v)
    (hA : DataW.TrodAll enc P W 0 (fun _ => true) true fn.params.toList args.toList ds ps) (hw : LaidW W g)
    (h : ∀ a w, At W (fun _ => True) (mem1 g pas) (slots fn.ntmps (paV pas 0 0)) (setArgs (paV pas 0 0) 0 env0) ⟨[], paR pas⟩ a w → co.wp P (bodyPost P fn (LawEnd W)) a w) : Calls P f args W (LawEnd W) := by
  obtain ⟨c, hm, hp, hG, hV, hwr⟩ := law_start hpa hn hfx hval hA hw
  exact calls_of_wp hf hb (h _ _ ⟨c, trivial, hm, hp, env_ok hG fn.ntmps hV, rfl, Below.refl _ _, fun b hb => absurd hb (hwr b)⟩)

/-- the law's call, out of one run -/
theorem law_calls1 {P : Program} (hP : Plain P) {kw : Kw} (hkw : ∀ ρ, KwOK P ρ kw) {it d : Nat} {f : FuncId} {fn : Func} {g : List (Nat × List V)} {pas : List Pa} (hpa : fn.params.toList.mapM (paOf P) = some pas) (hn : (Nat.ble (paR pas).length 1000 && Nat.ble (paRows pas) 64) = true) (hfx : allL (fun x => fixed x.2) g = true)
    (h : allTrue (evFn P kw it d f (paV pas 0 0) (mem1 g pas) ⟨[], paR pas⟩) = true)
    {H : Type} {enc : TypeId × Value → H} {W : World} {base : Nat} {args : Array Value} {ds : List (DataW H)} {ps : List MemPlace} (hval : ∀ (j : Nat) t v, fn.params[j]? = some t → args[j]? = some v → Value.okWide P W .any base t v)
    (hA : DataW.TrodAll enc P W 0 (fun _ => true) true fn.params.toList args.toList ds ps) (hw : LaidW W g) (hne : f ≠ yId := by decide) : Calls P f args W (LawEnd W) := by
  obtain ⟨c, hm, hp, hG, hV, hwr⟩ := law_start hpa hn hfx hval hA hw
  obtain ⟨m, q, he⟩ := allTrue_out c.ρ h
  refine (evFn_call hP (hkw c.ρ) it d hne _ c _ m W _ q _ args rfl hm hp hG hV he).2.mono fun e w' hR => ?_
  obtain ⟨c', z, rfl, s, hz, _⟩ := hR
  rw [VR.bool] at hz
  subst hz
  exact ⟨rfl, s.below hwr⟩

/-- the law's call, out of runs for parts of the first variable's range -/
theorem law_callsR {P : Program} (hP : Plain P) {kw : Kw} (hkw : ∀ ρ, KwOK P ρ kw) {it d : Nat} {f : FuncId} {fn : Func} {g : List (Nat × List V)} {pas : List Pa} (hpa : fn.params.toList.mapM (paOf P) = some pas) (hn : (Nat.ble (paR pas).length 1000 && Nat.ble (paRows pas) 64) = true) (hfx : allL (fun x => fixed x.2) g = true)
    {lo hi : Int} (h0 : (paR pas)[0]? = some (lo, hi)) {rs : List (Int × Int)} (hc : ∀ z, lo ≤ z → z ≤ hi → ∃ r ∈ rs, r.1 ≤ z ∧ z ≤ r.2)
    (h : ∀ r ∈ rs, allTrue (evFn P kw it d f (paV pas 0 0) (mem1 g pas) ⟨[], setRng (paR pas) 0 fun _ => r⟩) = true)
    {H : Type} {enc : TypeId × Value → H} {W : World} {base : Nat} {args : Array Value} {ds : List (DataW H)} {ps : List MemPlace} (hval : ∀ (j : Nat) t v, fn.params[j]? = some t → args[j]? = some v → Value.okWide P W .any base t v)
    (hA : DataW.TrodAll enc P W 0 (fun _ => true) true fn.params.toList args.toList ds ps) (hw : LaidW W g) (hne : f ≠ yId := by decide) : Calls P f args W (LawEnd W) := by
  obtain ⟨c, hm, hp, hG, hV, hwr⟩ := law_start hpa hn hfx hval hA hw
  obtain ⟨g0, g1⟩ := hp.rng 0 lo hi h0
  obtain ⟨r, hr, g2, g3⟩ := hc _ g0 g1
  have hp2 : PcR c.ρ ⟨[], setRng (paR pas) 0 fun _ => r⟩ := ⟨fun d hd => (nomatch hd), fun i l u hi => by
    rw [setRng_get] at hi
    by_cases h : i = 0
    · subst h
      rw [if_pos rfl, h0] at hi
      obtain rfl := Option.some.inj (show some r = some (l, u) from hi)
      exact ⟨g2, g3⟩
    · rw [if_neg h] at hi
      exact hp.rng i l u hi⟩
  obtain ⟨m, q, he⟩ := allTrue_out c.ρ (h r hr)
  refine (evFn_call hP (hkw c.ρ) it d hne _ c _ m W _ q _ args rfl hm hp2 hG hV he).2.mono fun e w' hR => ?_
  obtain ⟨c', z, rfl, s, hz, _⟩ := hR
  rw [VR.bool] at hz
  subst hz
  exact ⟨rfl, s.below hwr⟩

/-- the law's call, out of runs for parts of the paths -/
theorem law_callsP {P : Program} (hP : Plain P) {kw : Kw} (hkw : ∀ ρ, KwOK P ρ kw) {it d : Nat} {f : FuncId} {fn : Func} {g : List (Nat × List V)} {pas : List Pa} (hpa : fn.params.toList.mapM (paOf P) = some pas) (hn : (Nat.ble (paR pas).length 1000 && Nat.ble (paRows pas) 64) = true) (hfx : allL (fun x => fixed x.2) g = true)
    {qs : List Pc} (hc : ∀ ρ, PcR ρ ⟨[], paR pas⟩ → ∃ q ∈ qs, PcR ρ q)
    (h : ∀ q ∈ qs, allTrue (evFn P kw it d f (paV pas 0 0) (mem1 g pas) q) = true)
    {H : Type} {enc : TypeId × Value → H} {W : World} {base : Nat} {args : Array Value} {ds : List (DataW H)} {ps : List MemPlace} (hval : ∀ (j : Nat) t v, fn.params[j]? = some t → args[j]? = some v → Value.okWide P W .any base t v)
    (hA : DataW.TrodAll enc P W 0 (fun _ => true) true fn.params.toList args.toList ds ps) (hw : LaidW W g) (hne : f ≠ yId := by decide) : Calls P f args W (LawEnd W) := by
  obtain ⟨c, hm, hp, hG, hV, hwr⟩ := law_start hpa hn hfx hval hA hw
  obtain ⟨r, hr, hp2⟩ := hc _ hp
  obtain ⟨m, q, he⟩ := allTrue_out c.ρ (h r hr)
  refine (evFn_call hP (hkw c.ρ) it d hne _ c _ m W _ q _ args rfl hm hp2 hG hV he).2.mono fun e w' hR => ?_
  obtain ⟨c', z, rfl, s, hz, _⟩ := hR
  rw [VR.bool] at hz
  subst hz
  exact ⟨rfl, s.below hwr⟩

end Go.Sy

/-
  What is proved here: leaves without the facts that are no plain arithmetic, each once.
  Conditions: none.
-/
namespace Go.Sy

noncomputable def Z.beq : Z → Z → Bool
  | .n a, .n b => eqZ a b
  | .x a, .x b => Nat.beq a b
  | .add a b, .add c d => Z.beq a c && Z.beq b d
  | .sub a b, .sub c d => Z.beq a c && Z.beq b d
  | .mul a b, .mul c d => Z.beq a c && Z.beq b d
  | .md a b, .md c d => Z.beq a c && Z.beq b d
  | .dv a b, .dv c d => Z.beq a c && Z.beq b d
  | .e a, .e b => E.beq a b
  | _, _ => false

theorem Z.beq_eq {a : Z} : ∀ {b : Z}, Z.beq a b = true → a = b := by
  induction a with
  | n z => intro b h; cases b <;> simp only [Z.beq, Bool.false_eq_true] at h; rw [(eqZ_iff _ _).1 h]
  | x z => intro b h; cases b <;> simp only [Z.beq, Bool.false_eq_true] at h; rw [(beq_iff _ _).1 h]
  | e z => intro b h; cases b <;> simp only [Z.beq, Bool.false_eq_true] at h; rw [E.beq_eq h]
  | add a b iha ihb => intro c h; cases c <;> simp only [Z.beq, Bool.false_eq_true, Bool.and_eq_true] at h; rw [iha h.1, ihb h.2]
  | sub a b iha ihb => intro c h; cases c <;> simp only [Z.beq, Bool.false_eq_true, Bool.and_eq_true] at h; rw [iha h.1, ihb h.2]
  | mul a b iha ihb => intro c h; cases c <;> simp only [Z.beq, Bool.false_eq_true, Bool.and_eq_true] at h; rw [iha h.1, ihb h.2]
  | md a b iha ihb => intro c h; cases c <;> simp only [Z.beq, Bool.false_eq_true, Bool.and_eq_true] at h; rw [iha h.1, ihb h.2]
  | dv a b iha ihb => intro c h; cases c <;> simp only [Z.beq, Bool.false_eq_true, Bool.and_eq_true] at h; rw [iha h.1, ihb h.2]

noncomputable def BZ.beq : BZ → BZ → Bool
  | .lit a, .lit b => eqB a b
  | .lt a b, .lt c d => Z.beq a c && Z.beq b d
  | .eq a b, .eq c d => Z.beq a c && Z.beq b d
  | .not a, .not b => BZ.beq a b
  | _, _ => false

theorem BZ.beq_eq {a : BZ} : ∀ {b : BZ}, BZ.beq a b = true → a = b := by
  induction a with
  | lit z => intro b h; cases b <;> simp only [BZ.beq, Bool.false_eq_true] at h; rw [eqB_iff' h]
  | lt a b => intro c h; cases c <;> simp only [BZ.beq, Bool.false_eq_true, Bool.and_eq_true] at h; rw [Z.beq_eq h.1, Z.beq_eq h.2]
  | eq a b => intro c h; cases c <;> simp only [BZ.beq, Bool.false_eq_true, Bool.and_eq_true] at h; rw [Z.beq_eq h.1, Z.beq_eq h.2]
  | not a ih => intro c h; cases c <;> simp only [BZ.beq, Bool.false_eq_true] at h; rw [ih h]

noncomputable def GZ.beq : GZ → GZ → Bool
  | .ofZ a, .ofZ b => Z.beq a b
  | .ofB a, .ofB b => BZ.beq a b
  | _, _ => false

theorem GZ.beq_eq {a b : GZ} (h : GZ.beq a b = true) : a = b := by
  cases a <;> cases b <;> simp only [GZ.beq, Bool.false_eq_true] at h
  · rw [Z.beq_eq h]
  · rw [BZ.beq_eq h]

def eqList {α : Type} (f : α → α → Bool) : List α → List α → Bool
  | [], [] => true
  | a :: l, b :: r => f a b && eqList f l r
  | _, _ => false

theorem eqList_eq {α : Type} {f : α → α → Bool} (hf : ∀ {a b}, f a b = true → a = b) : ∀ {l r : List α}, eqList f l r = true → l = r
  | [], [], _ => rfl
  | [], _ :: _, h => (Bool.false_ne_true h).elim
  | _ :: _, [], h => (Bool.false_ne_true h).elim
  | a :: l, b :: r, h => by
    simp only [eqList, Bool.and_eq_true] at h
    rw [hf h.1, eqList_eq hf h.2]

noncomputable def factBeq (a b : BZ × Bool) : Bool := BZ.beq a.1 b.1 && eqB a.2 b.2
noncomputable def rangeBeq (a b : Int × Int) : Bool := eqZ a.1 b.1 && eqZ a.2 b.2

theorem factBeq_eq {a b : BZ × Bool} (h : factBeq a b = true) : a = b := by
  simp only [factBeq, Bool.and_eq_true] at h
  exact Prod.ext (BZ.beq_eq h.1) (eqB_iff' h.2)
theorem rangeBeq_eq {a b : Int × Int} (h : rangeBeq a b = true) : a = b := by
  simp only [rangeBeq, Bool.and_eq_true, eqZ_iff] at h
  exact Prod.ext h.1 h.2

noncomputable def Vz.beq (u v : Vz) : Bool := Nat.beq u.tag v.tag && eqList GZ.beq u.s v.s && eqList rangeBeq u.rng v.rng && eqList factBeq u.cs v.cs

theorem Vz.beq_eq {u v : Vz} (h : Vz.beq u v = true) : u = v := by
  simp only [Vz.beq, Bool.and_eq_true] at h
  obtain ⟨⟨⟨h1, h2⟩, h3⟩, h4⟩ := h
  have e1 : u.tag = v.tag := (beq_iff _ _).1 h1
  have e2 : u.s = v.s := eqList_eq GZ.beq_eq h2
  have e3 : u.rng = v.rng := eqList_eq rangeBeq_eq h3
  have e4 : u.cs = v.cs := eqList_eq factBeq_eq h4
  cases u; cases v
  simp_all

/-- no term but plain arithmetic -/
def Z.plain : Z → Bool
  | .n _ => true
  | .x _ => true
  | .add a b => a.plain && b.plain
  | .sub a b => a.plain && b.plain
  | .mul a b => a.plain && b.plain
  | .md a b => a.plain && b.plain
  | .dv a b => a.plain && b.plain
  | .e _ => false
def BZ.plain : BZ → Bool
  | .lit _ => true
  | .lt a b => a.plain && b.plain
  | .eq a b => a.plain && b.plain
  | .not a => a.plain

def slimF : List (BZ × Bool) → List (BZ × Bool)
  | [] => []
  | c :: l => cond c.1.plain (c :: slimF l) (slimF l)

theorem slimF_ok {ρ : Nat → Int} : ∀ {l : List (BZ × Bool)}, factsZ ρ l → factsZ ρ (slimF l)
  | [], _ => trivial
  | c :: l, h => by
    simp only [slimF]
    cases c.1.plain
    · exact slimF_ok h.2
    · exact ⟨h.1, slimF_ok h.2⟩

def slim (v : Vz) : Vz := ⟨slimF v.cs, v.rng, v.tag, v.s⟩

noncomputable def anyBeq (v : Vz) : List Vz → Bool
  | [] => false
  | u :: l => Vz.beq v u || anyBeq v l
noncomputable def once : List Vz → List Vz
  | [] => []
  | v :: l => cond (anyBeq v l) (once l) (v :: once l)

theorem anyBeq_mem {v : Vz} : ∀ {l : List Vz}, anyBeq v l = true → v ∈ l
  | u :: l, h => by
    simp only [anyBeq, Bool.or_eq_true] at h
    exact h.elim (fun h => by rw [Vz.beq_eq h]; exact .head _) fun h => .tail _ (anyBeq_mem h)

theorem once_mem {v : Vz} : ∀ {l : List Vz}, v ∈ l → v ∈ once l
  | u :: l, h => by
    simp only [once]
    cases ha : anyBeq u l with
    | true =>
      cases h with
      | head => exact once_mem (anyBeq_mem ha)
      | tail _ h => exact once_mem h
    | false =>
      cases h with
      | head => exact .head _
      | tail _ h => exact .tail _ (once_mem h)

noncomputable def slimVs (l : List Vc) : List Vz := once (l.map fun v => slim (normVc v))

/-- all leaves, each once -/
theorem owes_slim {base : Nat} {rng0 : List (Int × Int)} {J0 : (Nat → Int) → Prop} {J Jx : (Nat → Int) → (Nat → Int) → Prop} {p : Pc} {o : Option (List Vc)} {lz : List Vz} (he : o.map slimVs = some lz)
    (h : ∀ v ∈ lz, ∀ ρ, J0 ρ → PcR ρ p → factsZ ρ v.cs → rngP ρ 0 v.rng → OwesZ base rng0 (J ρ) (Jx ρ) ρ v) :
    ∃ l, o = some l ∧ ∀ v ∈ l, ∀ ρ, J0 ρ → PcR ρ p → PcR ρ v.q → Owes base ⟨[], rng0⟩ (J ρ) (Jx ρ) ρ v := by
  obtain ⟨l, h1, rfl⟩ := Option.map_eq_some_iff.1 he
  exact ⟨l, h1, fun v hv ρ hJ hp hq => owes_of hq fun hf hr =>
    h (slim (normVc v)) (once_mem (List.mem_map_of_mem (f := fun v => slim (normVc v)) hv)) ρ hJ hp (slimF_ok hf) hr⟩

/-- every leaf is one of the list -/
noncomputable def allIn (lz : List Vz) : List Vc → Bool
  | [] => true
  | v :: l => anyBeq (slim (normVc v)) lz && allIn lz l
noncomputable def leavesIn (lz : List Vz) (o : Option (List Vc)) : Bool :=
  match o with
  | none => false
  | some l => allIn lz l

theorem allIn_mem {lz : List Vz} {v : Vc} : ∀ {l : List Vc}, allIn lz l = true → v ∈ l → slim (normVc v) ∈ lz
  | u :: l, h, hv => by
    simp only [allIn, Bool.and_eq_true] at h
    cases hv with
    | head => exact anyBeq_mem h.1
    | tail _ hv => exact allIn_mem h.2 hv

/-- all leaves, by a list that holds them -/
theorem owes_in {base : Nat} {rng0 : List (Int × Int)} {J0 : (Nat → Int) → Prop} {J Jx : (Nat → Int) → (Nat → Int) → Prop} {p : Pc} {o : Option (List Vc)} {lz : List Vz} (he : leavesIn lz o = true)
    (h : ∀ v ∈ lz, ∀ ρ, J0 ρ → PcR ρ p → factsZ ρ v.cs → rngP ρ 0 v.rng → OwesZ base rng0 (J ρ) (Jx ρ) ρ v) :
    ∃ l, o = some l ∧ ∀ v ∈ l, ∀ ρ, J0 ρ → PcR ρ p → PcR ρ v.q → Owes base ⟨[], rng0⟩ (J ρ) (Jx ρ) ρ v := by
  cases o with
  | none => exact (Bool.false_ne_true he).elim
  | some l => exact ⟨l, rfl, fun v hv ρ hJ hp hq => owes_of hq fun hf hr => h (slim (normVc v)) (allIn_mem he hv) ρ hJ hp (slimF_ok hf) hr⟩

end Go.Sy

/-
  What is proved here: a pattern of a state, with variables, names and tokens of its own, and what fits it.
  Conditions: none.
-/
namespace Go.Sy
open Go.RowKit (Below)

/-- what stands for a pattern's variables (from 'base' on), for its names, and for its tokens -/
structure Ren where
  base : Nat
  s : List G
  σ : List (Nat × Nat)
  τ : List (Nat × Nat)

noncomputable def lookN (l : List (Nat × Nat)) (j : Nat) : Nat := (List.rec (motive := fun _ => Nat) (j) (fun t _ ih => (Bool.rec (motive := fun _ => Nat) (ih) (t.2) (Nat.beq j t.1))) (l))

noncomputable def Ren.g (r : Ren) (i : Nat) : Option G := selB (Nat.blt i r.base) none (nth (Nat.sub i r.base) r.s)
noncomputable def Ren.x (r : Ren) (i : Nat) : E := (Option.rec (motive := fun _ => E) (.x i) (fun g => (G.rec (motive := fun _ => E) (fun a => a) (fun _ => .x i) (g))) (r.g i))
noncomputable def Ren.okX (r : Ren) (i : Nat) : Bool := (Option.rec (motive := fun _ => Bool) (true) (fun g => (G.rec (motive := fun _ => Bool) (fun _ => true) (fun _ => false) (g))) (r.g i))

noncomputable def instE (r : Ren) (e : E) : E := (E.rec (motive := fun _ => E) (fun z => .n z) (fun i => r.x i) (fun op k _ _ ia ib => .bin op k ia ib) (fun k _ ia => .cv k ia) (fun a c lo hi _ ie => .rd a c lo hi ie) (fun l lo hi _ ie => .tab l lo hi ie) (e))
noncomputable def okE (r : Ren) (e : E) : Bool := (E.rec (motive := fun _ => Bool) (fun _ => true) (fun i => r.okX i) (fun _ _ _ _ ia ib => andB ia ib) (fun _ _ ia => ia) (fun _ _ _ _ _ ie => ie) (fun _ _ _ _ ie => ie) (e))

/-- the variable is a condition -/
noncomputable def asB (r : Ren) (a b : E) : Option B := (E.rec (motive := fun _ => Option B) (fun _ => none) (fun i => onN b (fun z => selB (eqZ z 1) ((Option.rec (motive := fun _ => Option B) (none) (fun g => (G.rec (motive := fun _ => Option B) (fun _ => none) (fun c => some c) (g))) (r.g i))) none) none) (fun _ _ _ _ _ _ => none) (fun _ _ _ => none) (fun _ _ _ _ _ _ => none) (fun _ _ _ _ _ => none) (a))

noncomputable def instB (r : Ren) (c : B) : B := (B.rec (motive := fun _ => B) (fun v => .lit v) (fun a b => mkLt (instE r a) (instE r b)) (fun a b => (Option.rec (motive := fun _ => B) (mkEq (instE r a) (instE r b)) (fun c => c) (asB r a b))) (fun _ ih => mkNot ih) (c))
noncomputable def okB (r : Ren) (c : B) : Bool := (B.rec (motive := fun _ => Bool) (fun _ => true) (fun a b => andB (okE r a) (okE r b)) (fun a b => (Option.rec (motive := fun _ => Bool) (andB (okE r a) (okE r b)) (fun _ => true) (asB r a b))) (fun _ ih => ih) (c))

section inst
variable {r : Ren} {ρ : Nat → Int}

theorem Ren.g_sub (i : Nat) : sub r.base r.s ρ i = match r.g i with | some g => g.den ρ | none => ρ i := by
  unfold sub Ren.g
  cases h : Nat.blt i r.base with
  | true => rw [blt_iff] at h; simp [h]
  | false =>
    have h' : ¬ i < r.base := by rw [blt_false] at h; omega
    simp only [h', if_false, selB_false, nth_eq]
    show _ = match r.s[i - r.base]? with | some g => g.den ρ | none => ρ i
    cases r.s[i - r.base]? <;> rfl

theorem Ren.x_den {i : Nat} (h : r.okX i = true) : (r.x i).den ρ = sub r.base r.s ρ i := by
  rw [Ren.g_sub]
  unfold Ren.okX at h
  unfold Ren.x
  cases hg : r.g i with
  | none => rfl
  | some g =>
    rw [hg] at h
    cases g with
    | ofE a => rfl
    | ofB c => exact absurd (show false = true from h) (by simp)

theorem instE_den (hrow : Nat.ble (Nat.add r.base r.s.length) 1000 = true) : ∀ {e : E}, okE r e = true → (instE r e).den ρ = e.den (sub r.base r.s ρ)
  | .n _, _ => rfl
  | .x i, h => Ren.x_den h
  | .bin op k a b, h => by
    obtain ⟨h1, h2⟩ := andB_ok (show andB (okE r a) (okE r b) = true from h)
    show binZ op k ((instE r a).den ρ) ((instE r b).den ρ) = binZ op k (a.den _) (b.den _)
    rw [instE_den hrow h1, instE_den hrow h2]
  | .cv k a, h => by
    show k.wrap ((instE r a).den ρ) = k.wrap (a.den _)
    rw [instE_den hrow (show okE r a = true from h)]
  | .rd a c lo hi e, h => by
    show clampZ lo hi (ρ (rowVar a c ((instE r e).den ρ).toNat)) = clampZ lo hi (sub r.base r.s ρ (rowVar a c (e.den _).toNat))
    rw [instE_den hrow (show okE r e = true from h), sub_row hrow]
  | .tab l lo hi e, h => by
    show clampZ lo hi (nthZ l ((instE r e).den ρ).toNat) = clampZ lo hi (nthZ l (e.den _).toNat)
    rw [instE_den hrow (show okE r e = true from h)]

theorem asB_some {a b : E} {c : B} (h : asB r a b = some c) : ∃ i, a = .x i ∧ b = .n 1 ∧ r.g i = some (.ofB c) := by
  cases a with
  | x i =>
    have h : onN b (fun z => selB (eqZ z 1) (Option.rec none (fun g => G.rec (fun _ => none) (fun c => some c) g) (r.g i) : Option B) none) none = some c := h
    cases b with
    | n z =>
      have h : selB (eqZ z 1) (Option.rec none (fun g => G.rec (fun _ => none) (fun c => some c) g) (r.g i) : Option B) none = some c := h
      obtain ⟨h1, h2⟩ := selB_some h
      rw [eqZ_iff] at h1; subst h1
      cases hg : r.g i with
      | none => rw [hg] at h2; exact absurd (show none = some c from h2) (by simp)
      | some g =>
        rw [hg] at h2
        cases g with
        | ofE a => exact absurd (show none = some c from h2) (by simp)
        | ofB d =>
          have h2 : some d = some c := h2
          simp at h2; subst h2
          exact ⟨i, rfl, rfl, hg⟩
    | _ => exact absurd (show none = some c from h) (by simp)
  | _ => exact absurd (show none = some c from h) (by simp)

theorem instB_den (hrow : Nat.ble (Nat.add r.base r.s.length) 1000 = true) : ∀ {c : B}, okB r c = true → (instB r c).den ρ = c.den (sub r.base r.s ρ)
  | .lit _, _ => rfl
  | .not a, h => by
    show (mkNot (instB r a)).den ρ = !a.den _
    rw [mkNot_den, instB_den hrow (show okB r a = true from h)]
  | .lt a b, h => by
    obtain ⟨h1, h2⟩ := andB_ok (show andB (okE r a) (okE r b) = true from h)
    show (mkLt (instE r a) (instE r b)).den ρ = decide (a.den _ < b.den _)
    rw [mkLt_den, instE_den hrow h1, instE_den hrow h2]
  | .eq a b, h => by
    have h : (Option.rec (andB (okE r a) (okE r b)) (fun _ => true) (asB r a b) : Bool) = true := h
    show (Option.rec (mkEq (instE r a) (instE r b)) (fun c => c) (asB r a b) : B).den ρ = (a.den _ == b.den _)
    cases hc : asB r a b with
    | none =>
      rw [hc] at h
      obtain ⟨h1, h2⟩ := andB_ok (show andB (okE r a) (okE r b) = true from h)
      show (mkEq (instE r a) (instE r b)).den ρ = _
      rw [mkEq_den, instE_den hrow h1, instE_den hrow h2]
    | some c =>
      obtain ⟨i, rfl, rfl, hg⟩ := asB_some hc
      show c.den ρ = (sub r.base r.s ρ i == 1)
      rw [Ren.g_sub, hg]
      show c.den ρ = ((if c.den ρ = true then (1 : Int) else 0) == 1)
      cases c.den ρ <;> rfl
end inst

/-! ### what fits -/

noncomputable def fitE (r : Ren) (rng : List (Int × Int)) (e e' : E) : Bool := andB (okE r e) (orB (eqE (instE r e) e') (eqE (canon rng (instE r e)) (canon rng e')))
noncomputable def fitBo (r : Ren) (c c' : B) : Bool := andB (okB r c) (eqBB (instB r c) c')
noncomputable def fitEs (r : Ren) (rng : List (Int × Int)) (a : List E) : List E → Bool := (List.rec (motive := fun _ => List E → Bool) (fun b => (List.rec (motive := fun _ => Bool) (true) (fun _ _ _ => false) (b))) (fun x _ ih => fun b => (List.rec (motive := fun _ => Bool) (false) (fun y l _ => andB (fitE r rng x y) (ih l)) (b))) (a))
noncomputable def fitN (r : Ren) (nb i i' : Nat) : Bool := andB (Nat.blt i nb) (Nat.beq (lookN r.σ i) i')
noncomputable def fitT (r : Ren) (nt i i' : Nat) : Bool := andB (Nat.blt i nt) (Nat.beq (lookN r.τ i) i')
noncomputable def fitCp (r : Ren) (nt : Nat) (a b : Cp) : Bool := (Cp.rec (motive := fun _ => Bool) (fun c => (Cp.rec (motive := fun _ => Bool) (fun d => Nat.beq c d) (fun _ _ => false) (false) (b))) (fun i k => (Cp.rec (motive := fun _ => Bool) (fun _ => false) (fun j l => andB (fitT r nt i j) (Nat.beq k l)) (false) (b))) (true) (a))

/-- an empty slice of the pattern: the row's spare room, if any, is that of a token -/
noncomputable def fitEz (r : Ren) (nt : Nat) (a b : Option (Nat × Nat × Nat)) : Bool := (Option.rec (motive := fun _ => Bool) ((Option.rec (motive := fun _ => Bool) (true) (fun _ => false) (b))) (fun x => (Option.rec (motive := fun _ => Bool) (false) (fun y => andB (Nat.beq x.1 y.1) (andB (fitT r nt x.2.1 y.2.1) (Nat.beq x.2.2 y.2.2))) (b))) (a))

/-- the pattern's value 'a' ('bad': anything) -/
noncomputable def fitV (r : Ren) (rng : List (Int × Int)) (nb nt : Nat) (a : V) : V → Bool := V.rec (motive_1 := fun _ => V → Bool) (motive_2 := fun _ => List V → Bool)
  (fun b y => (V.rec (motive_1 := fun _ => Bool) (motive_2 := fun _ => Unit) (fun c => fitBo r b c) (fun _ _ => false) (fun _ => false) (false) (fun _ _ => false) (false) (fun _ _ _ _ => false) (false) (fun _ => false) (fun _ _ _ _ _ => false) (false) (fun _ _ _ => false) (false) (fun _ _ => false) (fun _ _ => false) (false) (fun _ _ _ => false) (fun _ _ _ _ => false) (fun _ _ => false) (fun _ => false) Unit.unit (fun _ _ _ _ => Unit.unit) (y)))
  (fun k e y => (V.rec (motive_1 := fun _ => Bool) (motive_2 := fun _ => Unit) (fun _ => false) (fun k' e' => andB (Nat.beq (kindNo k) (kindNo k')) (fitE r rng e e')) (fun _ => false) (false) (fun _ _ => false) (false) (fun _ _ _ _ => false) (false) (fun _ => false) (fun _ _ _ _ _ => false) (false) (fun _ _ _ => false) (false) (fun _ _ => false) (fun _ _ => false) (false) (fun _ _ _ => false) (fun _ _ _ _ => false) (fun _ _ => false) (fun _ => false) Unit.unit (fun _ _ _ _ => Unit.unit) (y)))
  (fun l y => (V.rec (motive_1 := fun _ => Bool) (motive_2 := fun _ => Unit) (fun _ => false) (fun _ _ => false) (fun l' => fitEs r rng l l') (false) (fun _ _ => false) (false) (fun _ _ _ _ => false) (false) (fun _ => false) (fun _ _ _ _ _ => false) (false) (fun _ _ _ => false) (false) (fun _ _ => false) (fun _ _ => false) (false) (fun _ _ _ => false) (fun _ _ _ _ => false) (fun _ _ => false) (fun _ => false) Unit.unit (fun _ _ _ _ => Unit.unit) (y)))
  (fun y => (V.rec (motive_1 := fun _ => Bool) (motive_2 := fun _ => Unit) (fun _ => false) (fun _ _ => false) (fun _ => false) (true) (fun _ _ => false) (false) (fun _ _ _ _ => false) (false) (fun _ => false) (fun _ _ _ _ _ => false) (false) (fun _ _ _ => false) (false) (fun _ _ => false) (fun _ _ => false) (false) (fun _ _ _ => false) (fun _ _ _ _ => false) (fun _ _ => false) (fun _ => false) Unit.unit (fun _ _ _ _ => Unit.unit) (y)))
  (fun i o y => (V.rec (motive_1 := fun _ => Bool) (motive_2 := fun _ => Unit) (fun _ => false) (fun _ _ => false) (fun _ => false) (false) (fun i' o' => andB (fitN r nb i i') (Nat.beq o o')) (false) (fun _ _ _ _ => false) (false) (fun _ => false) (fun _ _ _ _ _ => false) (false) (fun _ _ _ => false) (false) (fun _ _ => false) (fun _ _ => false) (false) (fun _ _ _ => false) (fun _ _ _ _ => false) (fun _ _ => false) (fun _ => false) Unit.unit (fun _ _ _ _ => Unit.unit) (y)))
  (fun y => (V.rec (motive_1 := fun _ => Bool) (motive_2 := fun _ => Unit) (fun _ => false) (fun _ _ => false) (fun _ => false) (false) (fun _ _ => false) (true) (fun _ _ _ _ => false) (false) (fun _ => false) (fun _ _ _ _ _ => false) (false) (fun _ _ _ => false) (false) (fun _ _ => false) (fun _ _ => false) (false) (fun _ _ _ => false) (fun _ _ _ _ => false) (fun _ _ => false) (fun _ => false) Unit.unit (fun _ _ _ _ => Unit.unit) (y)))
  (fun i o n c y => (V.rec (motive_1 := fun _ => Bool) (motive_2 := fun _ => Unit) (fun _ => false) (fun _ _ => false) (fun _ => false) (false) (fun _ _ => false) (false) (fun i' o' n' c' => andB (andB (fitN r nb i i') (Nat.beq o o')) (andB (Nat.beq n n') (fitCp r nt c c'))) (false) (fun _ => false) (fun _ _ _ _ _ => false) (false) (fun _ _ _ => false) (false) (fun _ _ => false) (fun _ _ => false) (false) (fun _ _ _ => false) (fun _ _ _ _ => false) (fun _ _ => false) (fun _ => false) Unit.unit (fun _ _ _ _ => Unit.unit) (y)))
  (fun y => (V.rec (motive_1 := fun _ => Bool) (motive_2 := fun _ => Unit) (fun _ => false) (fun _ _ => false) (fun _ => false) (false) (fun _ _ => false) (false) (fun _ _ _ _ => false) (true) (fun _ => false) (fun _ _ _ _ _ => false) (false) (fun _ _ _ => false) (false) (fun _ _ => false) (fun _ _ => false) (false) (fun _ _ _ => false) (fun _ _ _ _ => false) (fun _ _ => false) (fun _ => false) Unit.unit (fun _ _ _ _ => Unit.unit) (y)))
  (fun i y => (V.rec (motive_1 := fun _ => Bool) (motive_2 := fun _ => Unit) (fun _ => false) (fun _ _ => false) (fun _ => false) (false) (fun _ _ => false) (false) (fun _ _ _ _ => false) (false) (fun i' => fitN r nb i i') (fun _ _ _ _ _ => false) (false) (fun _ _ _ => false) (false) (fun _ _ => false) (fun _ _ => false) (false) (fun _ _ _ => false) (fun _ _ _ _ => false) (fun _ _ => false) (fun _ => false) Unit.unit (fun _ _ _ _ => Unit.unit) (y)))
  (fun f _ _ ia ib y => (V.rec (motive_1 := fun _ => Bool) (motive_2 := fun _ => Unit) (fun _ => false) (fun _ _ => false) (fun _ => false) (false) (fun _ _ => false) (false) (fun _ _ _ _ => false) (false) (fun _ => false) (fun f' a' b' _ _ => andB (eqFn f f') (andB (ia a') (ib b'))) (false) (fun _ _ _ => false) (false) (fun _ _ => false) (fun _ _ => false) (false) (fun _ _ _ => false) (fun _ _ _ _ => false) (fun _ _ => false) (fun _ => false) Unit.unit (fun _ _ _ _ => Unit.unit) (y)))
  (fun y => (V.rec (motive_1 := fun _ => Bool) (motive_2 := fun _ => Unit) (fun _ => false) (fun _ _ => false) (fun _ => false) (false) (fun _ _ => false) (false) (fun _ _ _ _ => false) (false) (fun _ => false) (fun _ _ _ _ _ => false) (true) (fun _ _ _ => false) (false) (fun _ _ => false) (fun _ _ => false) (false) (fun _ _ _ => false) (fun _ _ _ _ => false) (fun _ _ => false) (fun _ => false) Unit.unit (fun _ _ _ _ => Unit.unit) (y)))
  (fun t _ ih y => (V.rec (motive_1 := fun _ => Bool) (motive_2 := fun _ => Unit) (fun _ => false) (fun _ _ => false) (fun _ => false) (false) (fun _ _ => false) (false) (fun _ _ _ _ => false) (false) (fun _ => false) (fun _ _ _ _ _ => false) (false) (fun t' v' _ => andB (Nat.beq t t') (ih v')) (false) (fun _ _ => false) (fun _ _ => false) (false) (fun _ _ _ => false) (fun _ _ _ _ => false) (fun _ _ => false) (fun _ => false) Unit.unit (fun _ _ _ _ => Unit.unit) (y)))
  (fun y => (V.rec (motive_1 := fun _ => Bool) (motive_2 := fun _ => Unit) (fun _ => false) (fun _ _ => false) (fun _ => false) (false) (fun _ _ => false) (false) (fun _ _ _ _ => false) (false) (fun _ => false) (fun _ _ _ _ _ => false) (false) (fun _ _ _ => false) (true) (fun _ _ => false) (fun _ _ => false) (false) (fun _ _ _ => false) (fun _ _ _ _ => false) (fun _ _ => false) (fun _ => false) Unit.unit (fun _ _ _ _ => Unit.unit) (y)))
  (fun _ ih y => (V.rec (motive_1 := fun _ => Bool) (motive_2 := fun _ => Unit) (fun _ => false) (fun _ _ => false) (fun _ => false) (false) (fun _ _ => false) (false) (fun _ _ _ _ => false) (false) (fun _ => false) (fun _ _ _ _ _ => false) (false) (fun _ _ _ => false) (false) (fun l' _ => ih l') (fun _ _ => false) (false) (fun _ _ _ => false) (fun _ _ _ _ => false) (fun _ _ => false) (fun _ => false) Unit.unit (fun _ _ _ _ => Unit.unit) (y)))
  (fun _ ih y => (V.rec (motive_1 := fun _ => Bool) (motive_2 := fun _ => Unit) (fun _ => false) (fun _ _ => false) (fun _ => false) (false) (fun _ _ => false) (false) (fun _ _ _ _ => false) (false) (fun _ => false) (fun _ _ _ _ _ => false) (false) (fun _ _ _ => false) (false) (fun _ _ => false) (fun l' _ => ih l') (false) (fun _ _ _ => false) (fun _ _ _ _ => false) (fun _ _ => false) (fun _ => false) Unit.unit (fun _ _ _ _ => Unit.unit) (y)))
  (fun _ => true)
  (fun i sz n y => (V.rec (motive_1 := fun _ => Bool) (motive_2 := fun _ => Unit) (fun _ => false) (fun _ _ => false) (fun _ => false) (false) (fun _ _ => false) (false) (fun _ _ _ _ => false) (false) (fun _ => false) (fun _ _ _ _ _ => false) (false) (fun _ _ _ => false) (false) (fun _ _ => false) (fun _ _ => false) (false) (fun i' sz' n' => andB (andB (andB (Nat.beq i i') (fitN r nb i i')) (Nat.beq sz sz')) (fitE r rng n n')) (fun _ _ _ _ => false) (fun _ _ => false) (fun _ => false) Unit.unit (fun _ _ _ _ => Unit.unit) (y)))
  (fun i sz e f y => (V.rec (motive_1 := fun _ => Bool) (motive_2 := fun _ => Unit) (fun _ => false) (fun _ _ => false) (fun _ => false) (false) (fun _ _ => false) (false) (fun _ _ _ _ => false) (false) (fun _ => false) (fun _ _ _ _ _ => false) (false) (fun _ _ _ => false) (false) (fun _ _ => false) (fun _ _ => false) (false) (fun _ _ _ => false) (fun i' sz' e' f' => andB (andB (fitN r nb i i') (Nat.beq sz sz')) (andB (fitE r rng e e') (Nat.beq f f'))) (fun _ _ => false) (fun _ => false) Unit.unit (fun _ _ _ _ => Unit.unit) (y)))
  (fun i z y => (V.rec (motive_1 := fun _ => Bool) (motive_2 := fun _ => Unit) (fun _ => false) (fun _ _ => false) (fun _ => false) (false) (fun _ _ => false) (false) (fun _ _ _ _ => false) (false) (fun _ => false) (fun _ _ _ _ _ => false) (false) (fun _ _ _ => false) (false) (fun _ _ => false) (fun _ _ => false) (false) (fun _ _ _ => false) (fun _ _ _ _ => false) (fun i' z' => andB (fitN r nb i i') (fitEz r nt z z')) (fun _ => false) Unit.unit (fun _ _ _ _ => Unit.unit) (y)))
  (fun i y => (V.rec (motive_1 := fun _ => Bool) (motive_2 := fun _ => Unit) (fun _ => false) (fun _ _ => false) (fun _ => false) (false) (fun _ _ => false) (false) (fun _ _ _ _ => false) (false) (fun _ => false) (fun _ _ _ _ _ => false) (false) (fun _ _ _ => false) (false) (fun _ _ => false) (fun _ _ => false) (false) (fun _ _ _ => false) (fun _ _ _ _ => false) (fun _ _ => false) (fun i' => fitN r nb i i') Unit.unit (fun _ _ _ _ => Unit.unit) (y)))
  (fun b => (List.rec (motive := fun _ => Bool) (true) (fun _ _ _ => false) (b)))
  (fun _ _ ih il b => (List.rec (motive := fun _ => Bool) (false) (fun y l _ => andB (ih y) (il l)) (b)))
  a

/-- what the names stand for, anew -/
noncomputable def Cx.re (c : Cx) (r : Ren) (nb nt : Nat) : Cx := ⟨fun i => c.β (lookN r.σ i), fun t => c.γ (lookN r.τ t), sub r.base r.s c.ρ, nb, nt, fun i => i < nb ∧ c.has (lookN r.σ i), fun _ h => h.1⟩

section fits
variable {c : Cx} {r : Ren} {rng : List (Int × Int)} {nb nt : Nat}

theorem fitE_ok (hrow : Nat.ble (Nat.add r.base r.s.length) 1000 = true) {ρ : Nat → Int} (hr : RngR ρ rng) {e e' : E} (h : fitE r rng e e' = true) : e.den (sub r.base r.s ρ) = e'.den ρ := by
  obtain ⟨h1, h2⟩ := andB_ok h
  rcases orB_ok h2 with h | h
  · rw [← eqE_ok h, instE_den hrow h1]
  · have e := congrArg (E.den ρ) (eqE_ok h)
    rw [canon_den hr, canon_den hr, instE_den hrow h1] at e
    exact e

theorem fitBo_ok (hrow : Nat.ble (Nat.add r.base r.s.length) 1000 = true) {ρ : Nat → Int} {b b' : B} (h : fitBo r b b' = true) : b.den (sub r.base r.s ρ) = b'.den ρ := by
  obtain ⟨h1, h2⟩ := andB_ok h
  rw [← eqBB_ok h2, instB_den hrow h1]

theorem fitEs_ok (hrow : Nat.ble (Nat.add r.base r.s.length) 1000 = true) {ρ : Nat → Int} (hr : RngR ρ rng) : ∀ {a b : List E}, fitEs r rng a b = true → a.map (E.den (sub r.base r.s ρ)) = b.map (E.den ρ)
  | [], [], _ => rfl
  | [], _ :: _, h => absurd (show false = true from h) (by simp)
  | _ :: _, [], h => absurd (show false = true from h) (by simp)
  | x :: a, y :: b, h => by
    obtain ⟨h1, h2⟩ := andB_ok (show andB (fitE r rng x y) (fitEs r rng a b) = true from h)
    rw [List.map_cons, List.map_cons, fitE_ok hrow hr h1, fitEs_ok hrow hr h2]

theorem fitN_ok {i i' : Nat} (h : fitN r nb i i' = true) : i < nb ∧ lookN r.σ i = i' := by
  obtain ⟨h1, h2⟩ := andB_ok h
  exact ⟨(blt_iff _ _).1 h1, (beq_iff _ _).1 h2⟩

theorem fitT_ok {i i' : Nat} (h : fitT r nt i i' = true) : i < nt ∧ lookN r.τ i = i' := by
  obtain ⟨h1, h2⟩ := andB_ok h
  exact ⟨(blt_iff _ _).1 h1, (beq_iff _ _).1 h2⟩

theorem fitCp_ok {a b : Cp} {k : Nat} (h : fitCp r nt a b = true) (hb : b.R c k) : a.R (c.re r nb nt) k := by
  cases a with
  | n x => cases b with
    | n y => rw [(beq_iff x y).1 h]; exact hb
    | _ => exact absurd (show false = true from h) (by simp)
  | u => trivial
  | t i l => cases b with
    | n _ => exact absurd (show false = true from h) (by simp)
    | u => exact absurd (show false = true from h) (by simp)
    | t j q =>
      obtain ⟨h1, h2⟩ := andB_ok (show andB (fitT r nt i j) (Nat.beq l q) = true from h)
      obtain ⟨h3, h4⟩ := fitT_ok h1
      rw [beq_iff] at h2; subst h2; subst h4
      exact ⟨h3, hb.2⟩

theorem fitEz_ok {a b : Option (Nat × Nat × Nat)} {o cap : Nat} (h : fitEz r nt a b = true) (hb : Ez c o cap b) : Ez (c.re r nb nt) o cap a := by
  cases a with
  | none => cases b with
    | none => exact hb
    | some _ => exact absurd (show false = true from h) (by simp)
  | some x => cases b with
    | none => exact absurd (show false = true from h) (by simp)
    | some y =>
      obtain ⟨x1, x2, x3⟩ := x
      obtain ⟨y1, y2, y3⟩ := y
      obtain ⟨h1, h2⟩ := andB_ok (show andB (Nat.beq x1 y1) (andB (fitT r nt x2 y2) (Nat.beq x3 y3)) = true from h)
      obtain ⟨h3, h4⟩ := andB_ok h2
      obtain ⟨h5, h6⟩ := fitT_ok h3
      rw [beq_iff] at h1 h4; subst h1; subst h4; subst h6
      exact ⟨h5, hb.2⟩

mutual
theorem fitV_R (hrow : Nat.ble (Nat.add r.base r.s.length) 1000 = true) (hr : RngR c.ρ rng) : ∀ {v u : V} {x : Value}, fitV r rng nb nt v u = true → VR c u x → VR (c.re r nb nt) v x
  | .bool b, u, x, h, hx => by
    cases u with
    | bool b' =>
      rw [VR.bool] at *; rw [hx]
      exact congrArg _ (fitBo_ok hrow (show fitBo r b b' = true from h)).symm
    | _ => exact absurd (show false = true from h) (by simp)
  | .int k e, u, x, h, hx => by
    cases u with
    | int k' e' =>
      obtain ⟨h1, h2⟩ := andB_ok (show andB (Nat.beq (kindNo k) (kindNo k')) (fitE r rng e e') = true from h)
      have := kindNo_inj h1; subst this
      rw [VR.int] at *
      have e1 : e.den (c.re r nb nt).ρ = e'.den c.ρ := fitE_ok hrow hr h2
      rw [e1]; exact hx
    | _ => exact absurd (show false = true from h) (by simp)
  | .str l, u, x, h, hx => by
    cases u with
    | str l' =>
      rw [VR.str] at *
      obtain ⟨bs, e, hb⟩ := hx
      refine ⟨bs, e, ?_⟩
      unfold BR at *
      rw [← hb]; exact fitEs_ok hrow hr (show fitEs r rng l l' = true from h)
    | _ => exact absurd (show false = true from h) (by simp)
  | .nilPtr, u, x, h, hx => by
    cases u with
    | nilPtr => rw [VR.nilPtr] at *; exact hx
    | _ => exact absurd (show false = true from h) (by simp)
  | .ptr i o, u, x, h, hx => by
    cases u with
    | ptr i' o' =>
      obtain ⟨h1, h2⟩ := andB_ok (show andB (fitN r nb i i') (Nat.beq o o') = true from h)
      obtain ⟨h3, h4⟩ := fitN_ok h1
      rw [beq_iff] at h2; subst h2; subst h4
      rw [VR.ptr] at *
      exact ⟨⟨h3, hx.1⟩, hx.2⟩
    | _ => exact absurd (show false = true from h) (by simp)
  | .nilSlice, u, x, h, hx => by
    cases u with
    | nilSlice => rw [VR.nilSlice] at *; exact hx
    | _ => exact absurd (show false = true from h) (by simp)
  | .slice i o len cp, u, x, h, hx => by
    cases u with
    | slice i' o' len' cp' =>
      obtain ⟨h1, h2⟩ := andB_ok (show andB (andB (fitN r nb i i') (Nat.beq o o')) (andB (Nat.beq len len') (fitCp r nt cp cp')) = true from h)
      obtain ⟨h3, h4⟩ := andB_ok h1
      obtain ⟨h5, h6⟩ := andB_ok h2
      obtain ⟨h7, h8⟩ := fitN_ok h3
      rw [beq_iff] at h4 h5; subst h4; subst h5; subst h8
      rw [VR.slice] at *
      obtain ⟨g0, cap, g1, g2⟩ := hx
      exact ⟨⟨h7, g0⟩, cap, fitCp_ok h6 g1, g2⟩
    | _ => exact absurd (show false = true from h) (by simp)
  | .nilMap, u, x, h, hx => by
    cases u with
    | nilMap => rw [VR.nilMap] at *; exact hx
    | _ => exact absurd (show false = true from h) (by simp)
  | .map i, u, x, h, hx => by
    cases u with
    | map i' =>
      obtain ⟨h3, h4⟩ := fitN_ok (show fitN r nb i i' = true from h)
      subst h4
      rw [VR.map] at *
      exact ⟨⟨h3, hx.1⟩, hx.2⟩
    | _ => exact absurd (show false = true from h) (by simp)
  | .func f a b, u, x, h, hx => by
    cases u with
    | func f' a' b' =>
      obtain ⟨h1, h2⟩ := andB_ok (show andB (eqFn f f') (andB (fitV r rng nb nt (.agg a) (.agg a')) (fitV r rng nb nt (.agg b) (.agg b'))) = true from h)
      obtain ⟨h3, h4⟩ := andB_ok h2
      have := eqFn_ok h1; subst this
      rw [VR.func] at *
      obtain ⟨as, bs, e, g1, g2⟩ := hx
      exact ⟨as, bs, e, fitVs_R hrow hr h3 g1, fitVs_R hrow hr h4 g2⟩
    | _ => exact absurd (show false = true from h) (by simp)
  | .nilFunc, u, x, h, hx => by
    cases u with
    | nilFunc => unfold VR at *; exact hx
    | _ => exact absurd (show false = true from h) (by simp)
  | .iface t v, u, x, h, hx => by
    cases u with
    | iface t' v' =>
      obtain ⟨h1, h2⟩ := andB_ok (show andB (Nat.beq t t') (fitV r rng nb nt v v') = true from h)
      rw [beq_iff] at h1; subst h1
      rw [VR.iface] at *
      obtain ⟨y, e, g⟩ := hx
      exact ⟨y, e, fitV_R hrow hr h2 g⟩
    | _ => exact absurd (show false = true from h) (by simp)
  | .nilIface, u, x, h, hx => by
    cases u with
    | nilIface => rw [VR.nilIface] at *; exact hx
    | _ => exact absurd (show false = true from h) (by simp)
  | .agg l, u, x, h, hx => by
    cases u with
    | agg l' =>
      rw [VR.agg] at *
      obtain ⟨xs, e, g⟩ := hx
      exact ⟨xs, e, fitVs_R hrow hr (show fitV r rng nb nt (.agg l) (.agg l') = true from h) g⟩
    | _ => exact absurd (show false = true from h) (by simp)
  | .tuple l, u, x, h, hx => by
    cases u with
    | tuple l' =>
      rw [VR.tuple] at *
      obtain ⟨xs, e, g⟩ := hx
      exact ⟨xs, e, fitVs_R hrow hr (show fitV r rng nb nt (.agg l) (.agg l') = true from h) g⟩
    | _ => exact absurd (show false = true from h) (by simp)
  | .bad, _, _, _, _ => VR.bad
  | .sarr i sz len, u, x, h, hx => by
    cases u with
    | sarr i' sz' len' =>
      obtain ⟨h1, h2⟩ := andB_ok (show andB (andB (andB (Nat.beq i i') (fitN r nb i i')) (Nat.beq sz sz')) (fitE r rng len len') = true from h)
      obtain ⟨h3, h4⟩ := andB_ok h1
      obtain ⟨h7, h8⟩ := andB_ok h3
      obtain ⟨h5, h6⟩ := fitN_ok h8
      rw [beq_iff] at h4 h7; subst h4
      rw [VR.sarr] at *
      obtain ⟨g0, n, cap, g1, g2⟩ := hx
      have e1 : len.den (c.re r nb nt).ρ = len'.den c.ρ := fitE_ok hrow hr h2
      have e2 : (c.re r nb nt).ρ (rowVar (i - 4096) 63 0) = c.ρ (rowVar (i' - 4096) 63 0) := by rw [h7]; exact sub_row hrow
      have e3 : (c.re r nb nt).ad i 0 = c.ad i' 0 := by rw [← h6]; rfl
      rw [← h6] at g0
      exact ⟨⟨h5, g0⟩, n, cap, by rw [e1]; exact g1, by rw [e2, e3]; exact g2⟩
    | _ => exact absurd (show false = true from h) (by simp)
  | .sptr i sz e f, u, x, h, hx => by
    cases u with
    | sptr i' sz' e' f' =>
      obtain ⟨h1, h2⟩ := andB_ok (show andB (andB (fitN r nb i i') (Nat.beq sz sz')) (andB (fitE r rng e e') (Nat.beq f f')) = true from h)
      obtain ⟨h3, h4⟩ := andB_ok h1
      obtain ⟨h7, h8⟩ := andB_ok h2
      obtain ⟨h5, h6⟩ := fitN_ok h3
      rw [beq_iff] at h4 h8; subst h4; subst h6; subst h8
      rw [VR.sptr] at *
      obtain ⟨g0, j, g1, g2⟩ := hx
      have e1 : e.den (c.re r nb nt).ρ = e'.den c.ρ := fitE_ok hrow hr h7
      exact ⟨⟨h5, g0⟩, j, by rw [e1]; exact g1, g2⟩
    | _ => exact absurd (show false = true from h) (by simp)
  | .yld i, u, x, h, hx => by
    cases u with
    | yld i' =>
      obtain ⟨h3, h4⟩ := fitN_ok (show fitN r nb i i' = true from h)
      subst h4
      rw [VR.yld] at *
      exact ⟨⟨h3, hx.1⟩, hx.2⟩
    | _ => exact absurd (show false = true from h) (by simp)
  | .eslice i z, u, x, h, hx => by
    cases u with
    | eslice i' z' =>
      obtain ⟨h1, h2⟩ := andB_ok (show andB (fitN r nb i i') (fitEz r nt z z') = true from h)
      obtain ⟨h3, h4⟩ := fitN_ok h1
      subst h4
      rw [VR.eslice] at *
      obtain ⟨g0, o, cap, g1, g2⟩ := hx
      exact ⟨⟨h3, g0⟩, o, cap, g1, fitEz_ok h2 g2⟩
    | _ => exact absurd (show false = true from h) (by simp)
theorem fitVs_R (hrow : Nat.ble (Nat.add r.base r.s.length) 1000 = true) (hr : RngR c.ρ rng) : ∀ {l l' : List V} {xs : List Value}, fitV r rng nb nt (.agg l) (.agg l') = true → VRs c l' xs → VRs (c.re r nb nt) l xs
  | [], [], xs, _, hx => by rw [VRs.nil_iff] at *; exact hx
  | [], _ :: _, _, h, _ => absurd (show false = true from h) (by simp)
  | _ :: _, [], _, h, _ => absurd (show false = true from h) (by simp)
  | v :: l, u :: l', xs, h, hx => by
    obtain ⟨h1, h2⟩ := andB_ok (show andB (fitV r rng nb nt v u) (fitV r rng nb nt (.agg l) (.agg l')) = true from h)
    obtain ⟨x, ys, rfl, g1, g2⟩ := VRs.cons_iff.1 hx
    exact VRs.cons (fitV_R hrow hr h1 g1) (fitVs_R hrow hr h2 g2)
end
end fits

end Go.Sy

/-
  What is proved here: a pattern of a state, with variables, names and tokens of its own: what fits it (the memory, the slots, the path); loops with several heads.
  Conditions: none.
-/
namespace Go.Sy
open Go.RowKit (Below)

/-! ### blocks -/

noncomputable def fitLe (r : Ren) (rng : List (Int × Int)) (nb nt : Nat) (l : List V) : List V → Bool := (List.rec (motive := fun _ => List V → Bool) (fun _ => true) (fun v _ ih => fun us => (List.rec (motive := fun _ => Bool) (false) (fun u us _ => andB (fitV r rng nb nt v u) (ih us)) (us))) (l))
noncomputable def fitG (r : Ren) (nt : Nat) (a b : Option (Nat × Nat)) : Bool := (Option.rec (motive := fun _ => Bool) (true) (fun x => (Option.rec (motive := fun _ => Bool) (false) (fun y => andB (fitT r nt x.1 y.1) (Nat.beq x.2 y.2)) (b))) (a))
noncomputable def impB (a b : Bool) : Bool := orB (notB a) b
noncomputable def fitKv (r : Ren) (rng : List (Int × Int)) (nb nt : Nat) (l : List (V × V)) : List (V × V) → Bool := (List.rec (motive := fun _ => List (V × V) → Bool) (fun us => (List.rec (motive := fun _ => Bool) (true) (fun _ _ _ => false) (us))) (fun v _ ih => fun us => (List.rec (motive := fun _ => Bool) (false) (fun u us _ => andB (andB (fitV r rng nb nt v.1 u.1) (fitV r rng nb nt v.2 u.2)) (ih us)) (us))) (l))
noncomputable def fitKm (r : Ren) (rng : List (Int × Int)) (nb nt : Nat) (l : List (V × V)) : List (V × V × Nat) → Bool := (List.rec (motive := fun _ => List (V × V × Nat) → Bool) (fun us => (List.rec (motive := fun _ => Bool) (true) (fun _ _ _ => false) (us))) (fun v _ ih => fun us => (List.rec (motive := fun _ => Bool) (false) (fun u us _ => andB (andB (fitV r rng nb nt v.1 u.1) (fitV r rng nb nt v.2 u.2.1)) (ih us)) (us))) (l))

noncomputable def fitKb (r : Ren) (rng : List (Int × Int)) (nb nt : Nat) (l : List (V × V × Nat)) : List (V × V × Nat) → Bool := (List.rec (motive := fun _ => List (V × V × Nat) → Bool) (fun us => (List.rec (motive := fun _ => Bool) (true) (fun _ _ _ => false) (us))) (fun v _ ih => fun us => (List.rec (motive := fun _ => Bool) (false) (fun u us _ => andB (andB (fitV r rng nb nt v.1 u.1) (fitV r rng nb nt v.2.1 u.2.1)) (andB (Nat.beq v.2.2 u.2.2) (ih us))) (us))) (l))
noncomputable def fitBk (r : Ren) (rng : List (Int × Int)) (nb nt : Nat) (b : Blk) : Blk → Bool := (Blk.rec (motive := fun _ => Blk → Bool) (fun l wr pl g => fun b' => (Blk.rec (motive := fun _ => Bool) (fun l' wr' pl' g' => andB (andB (impB wr wr') (impB pl pl')) (andB (fitG r nt g g') (fitLe r rng nb nt l l'))) (fun _ _ _ => false) (fun _ _ => false) (fun _ _ _ => false) (fun _ _ => false) (false) (fun _ _ _ _ _ _ _ => false) (b'))) (fun es k wr => fun b' => (Blk.rec (motive := fun _ => Bool) (fun _ _ _ _ => false) (fun es' k' wr' => andB (andB (Nat.beq k k') (impB wr wr')) (fitKb r rng nb nt es es')) (fun _ _ => false) (fun _ _ _ => false) (fun _ _ => false) (false) (fun _ _ _ _ _ _ _ => false) (b'))) (fun _ _ => fun _ => false) (fun a ls n => fun b' => (Blk.rec (motive := fun _ => Bool) (fun _ _ _ _ => false) (fun _ _ _ => false) (fun _ _ => false) (fun a' ls' n' => andB (andB (Nat.beq a a') (eqLfs ls ls')) (fitE r rng n n')) (fun _ _ => false) (false) (fun _ _ _ _ _ _ _ => false) (b'))) (fun es wr => fun b' => (Blk.rec (motive := fun _ => Bool) (fun _ _ _ _ => false) (fun es' _ wr' => andB (impB wr wr') (fitKm r rng nb nt es es')) (fun _ _ => false) (fun _ _ _ => false) (fun es' wr' => andB (impB wr wr') (fitKv r rng nb nt es es')) (false) (fun _ _ _ _ _ _ _ => false) (b'))) (fun _ => false) (fun _ _ _ _ _ _ _ => fun _ => false) (b))

theorem impB_ok {a b : Bool} (h : impB a b = true) (ha : a = true) : b = true := by cases a <;> cases b <;> simp_all [impB, orB, notB]

section fits
variable {c : Cx} {r : Ren} {rng : List (Int × Int)} {nb nt : Nat} {w : World}

theorem fitLe_ok (hrow : Nat.ble (Nat.add r.base r.s.length) 1000 = true) (hr : RngR c.ρ rng) : ∀ {l us : List V}, fitLe r rng nb nt l us = true → ∀ {j : Nat} {v : V}, l[j]? = some v → ∃ u, us[j]? = some u ∧ ∀ x, VR c u x → VR (c.re r nb nt) v x
  | [], _, _, _, _, hj => by simp at hj
  | _ :: _, [], h, _, _, _ => absurd (show false = true from h) (by simp)
  | v0 :: l, u0 :: us, h, j, v, hj => by
    obtain ⟨h1, h2⟩ := andB_ok (show andB (fitV r rng nb nt v0 u0) (fitLe r rng nb nt l us) = true from h)
    cases j with
    | zero =>
      have hj : some v0 = some v := hj
      simp at hj; subst hj
      exact ⟨u0, rfl, fun x hx => fitV_R hrow hr h1 hx⟩
    | succ j =>
      obtain ⟨u, g1, g2⟩ := fitLe_ok hrow hr h2 (show l[j]? = some v from hj)
      exact ⟨u, g1, g2⟩

theorem fitKv_ok (hrow : Nat.ble (Nat.add r.base r.s.length) 1000 = true) (hr : RngR c.ρ rng) : ∀ {es es' : List (V × V)} {l : List MapEntry}, fitKv r rng nb nt es es' = true → KvR c es' l → KvR (c.re r nb nt) es l
  | [], [], [], _, _ => trivial
  | [], [], _ :: _, _, hl => hl.elim
  | [], _ :: _, _, h, _ => absurd (show false = true from h) (by simp)
  | _ :: _, [], _, h, _ => absurd (show false = true from h) (by simp)
  | _ :: _, _ :: _, [], _, hl => hl.elim
  | v :: es, u :: es', e :: l, h, hl => by
    obtain ⟨h1, h2⟩ := andB_ok (show andB (andB (fitV r rng nb nt v.1 u.1) (fitV r rng nb nt v.2 u.2)) (fitKv r rng nb nt es es') = true from h)
    obtain ⟨h3, h4⟩ := andB_ok h1
    exact ⟨fitV_R hrow hr h3 hl.1, fitV_R hrow hr h4 hl.2.1, fitKv_ok hrow hr h2 hl.2.2⟩

theorem fitKm_ok (hrow : Nat.ble (Nat.add r.base r.s.length) 1000 = true) (hr : RngR c.ρ rng) : ∀ {es : List (V × V)} {es' : List (V × V × Nat)} {l : List MapEntry}, fitKm r rng nb nt es es' = true → EsR c es' l → KvR (c.re r nb nt) es l
  | [], [], [], _, _ => trivial
  | [], [], _ :: _, _, hl => absurd hl.1 (by simp)
  | [], _ :: _, _, h, _ => absurd (show false = true from h) (by simp)
  | _ :: _, [], _, h, _ => absurd (show false = true from h) (by simp)
  | _ :: _, _ :: _, [], _, hl => absurd hl.1 (by simp)
  | v :: es, u :: es', e :: l, h, hl => by
    obtain ⟨h1, h2⟩ := andB_ok (show andB (andB (fitV r rng nb nt v.1 u.1) (fitV r rng nb nt v.2 u.2.1)) (fitKm r rng nb nt es es') = true from h)
    obtain ⟨h3, h4⟩ := andB_ok h1
    obtain ⟨e', g1, g2, g3, _⟩ := hl.2 0 u rfl
    have g1 : some e = some e' := g1
    simp at g1; subst g1
    exact ⟨fitV_R hrow hr h3 g2, fitV_R hrow hr h4 g3, fitKm_ok hrow hr h2 ⟨by have := hl.1; simpa using this, fun n x hx => hl.2 (n + 1) x (by simpa using hx)⟩⟩

theorem fitKb_at : ∀ {es es' : List (V × V × Nat)}, fitKb r rng nb nt es es' = true → es.length = es'.length ∧ ∀ (n : Nat) e, es[n]? = some e → ∃ u, es'[n]? = some u ∧ fitV r rng nb nt e.1 u.1 = true ∧ fitV r rng nb nt e.2.1 u.2.1 = true ∧ e.2.2 = u.2.2
  | [], [], _ => ⟨rfl, fun _ _ h => by simp at h⟩
  | [], _ :: _, h => absurd (show false = true from h) (by simp)
  | _ :: _, [], h => absurd (show false = true from h) (by simp)
  | v :: es, u :: es', h => by
    obtain ⟨h1, h2⟩ := andB_ok (show andB (andB (fitV r rng nb nt v.1 u.1) (fitV r rng nb nt v.2.1 u.2.1)) (andB (Nat.beq v.2.2 u.2.2) (fitKb r rng nb nt es es')) = true from h)
    obtain ⟨h3, h4⟩ := andB_ok h1
    obtain ⟨h5, h6⟩ := andB_ok h2
    obtain ⟨h7, h8⟩ := fitKb_at h6
    refine ⟨by simp [h7], fun n e hn => ?_⟩
    cases n with
    | zero =>
      simp at hn; subst hn
      exact ⟨u, rfl, h3, h4, (beq_iff _ _).1 h5⟩
    | succ n =>
      obtain ⟨u', g1, g2⟩ := h8 n e (show es[n]? = some e from hn)
      exact ⟨u', g1, g2⟩

/-- one block -/
theorem fitBk_ok (hrow : Nat.ble (Nat.add r.base r.s.length) 1000 = true) (hr : RngR c.ρ rng) {b b' : Blk} (h : fitBk r rng nb nt b b' = true) :
    b' ≠ .rsv ∧ (b.wrB = true → b'.wrB = true) ∧ (b.plB = true → b'.plB = true) ∧ (b.live (c.re r nb nt) → b'.live c) ∧ ∀ loc, BlkR c w loc b' → BlkR (c.re r nb nt) w loc b := by
  cases b with
  | map es k wr =>
    cases b' with
    | map es' k' wr' =>
      obtain ⟨h1, h2⟩ := andB_ok (show andB (andB (Nat.beq k k') (impB wr wr')) (fitKb r rng nb nt es es') = true from h)
      obtain ⟨h3, h4⟩ := andB_ok h1
      rw [beq_iff] at h3; subst h3
      refine ⟨(fun h => nomatch h), impB_ok h4, (fun h => nomatch h), fun _ => trivial, fun loc hR => ?_⟩
      obtain ⟨e, g1, g2⟩ := hR
      obtain ⟨k1, k2⟩ := fitKb_at h2
      refine ⟨e, g1, by rw [k1]; exact g2.1, fun n x hx => ?_⟩
      obtain ⟨u, j1, j2, j3, j4⟩ := k2 n x hx
      obtain ⟨e', f1, f2, f3, f4⟩ := g2.2 n u j1
      exact ⟨e', f1, fitV_R hrow hr j2 f2, fitV_R hrow hr j3 f3, by rw [j4]; exact f4⟩
    | _ => exact absurd (show false = true from h) (by simp)
  | siter => cases b' <;> exact absurd (show false = true from h) (by simp)
  | rsv => cases b' <;> exact absurd (show false = true from h) (by simp)
  | lp => cases b' <;> exact absurd (show false = true from h) (by simp)
  | cells l wr pl g =>
    cases b' with
    | cells l' wr' pl' g' =>
      obtain ⟨h1, h2⟩ := andB_ok (show andB (andB (impB wr wr') (impB pl pl')) (andB (fitG r nt g g') (fitLe r rng nb nt l l')) = true from h)
      obtain ⟨h3, h4⟩ := andB_ok h1
      obtain ⟨h5, h6⟩ := andB_ok h2
      refine ⟨(fun h => nomatch h), impB_ok h3, impB_ok h4, fun _ => trivial, fun loc hR => ?_⟩
      obtain ⟨cs, ty, fr, g1, g2, g3, g4, g5⟩ := hR
      refine ⟨cs, ty, fr, g1, fun j v hj => ?_, fun hp => g3 (impB_ok h4 hp), fun hw => g4 (impB_ok h3 hw), ?_⟩
      · obtain ⟨u, k1, k2⟩ := fitLe_ok hrow hr h6 hj
        obtain ⟨x, k3, k4⟩ := g2 j u k1
        exact ⟨x, k3, k2 x k4⟩
      · cases g with
        | none => trivial
        | some x =>
          cases g' with
          | none => exact absurd (show false = true from h5) (by simp)
          | some y =>
            obtain ⟨k1, k2⟩ := andB_ok (show andB (fitT r nt x.1 y.1) (Nat.beq x.2 y.2) = true from h5)
            obtain ⟨k3, k4⟩ := fitT_ok k1
            rw [beq_iff] at k2
            obtain ⟨x1, x2⟩ := x
            obtain ⟨y1, y2⟩ := y
            have k2 : x2 = y2 := k2
            have k4 : lookN r.τ x1 = y1 := k4
            subst k2; subst k4
            exact ⟨k3, g5.2⟩
    | _ => exact absurd (show false = true from h) (by simp)
  | pm es wr =>
    cases b' with
    | pm es' wr' =>
      obtain ⟨h1, h2⟩ := andB_ok (show andB (impB wr wr') (fitKv r rng nb nt es es') = true from h)
      refine ⟨(fun h => nomatch h), impB_ok h1, (fun h => nomatch h), fun _ => trivial, fun loc hR => ?_⟩
      obtain ⟨e, k, g1, l', g2, g3⟩ := hR
      exact ⟨e, k, g1, l', g2, fitKv_ok hrow hr h2 g3⟩
    | map es' k' wr' =>
      obtain ⟨h1, h2⟩ := andB_ok (show andB (impB wr wr') (fitKm r rng nb nt es es') = true from h)
      refine ⟨(fun h => nomatch h), impB_ok h1, (fun h => nomatch h), fun _ => trivial, fun loc hR => ?_⟩
      obtain ⟨e, g1, g2⟩ := hR
      exact ⟨e, _, g1, e.toList, List.Perm.refl _, fitKm_ok hrow hr h2 g2⟩
    | _ => exact absurd (show false = true from h) (by simp)
  | srow x ls n =>
    cases b' with
    | srow x' ls' n' =>
      obtain ⟨h1, h2⟩ := andB_ok (show andB (andB (Nat.beq x x') (eqLfs ls ls')) (fitE r rng n n') = true from h)
      obtain ⟨h3, h4⟩ := andB_ok h1
      rw [beq_iff] at h3
      have e1 := eqLfs_ok h4
      subst h3; subst e1
      have e3 : n.den (c.re r nb nt).ρ = n'.den c.ρ := fitE_ok hrow hr h2
      have hlv : (Blk.srow x ls n).live (c.re r nb nt) → (Blk.srow x ls n').live c := fun hl => by
        have hl : 0 < n.den (c.re r nb nt).ρ := hl
        rw [e3] at hl; exact hl
      refine ⟨(fun h => nomatch h), (fun h => nomatch h), (fun h => nomatch h), hlv, fun loc hR hn => ?_⟩
      obtain ⟨cs, ty, fr, g1, g2⟩ := hR (hlv hn)
      refine ⟨cs, ty, fr, g1, fun q s l hq hl => ?_⟩
      rw [e3] at hq
      have e4 : (c.re r nb nt).ρ (rowVar x s q) = c.ρ (rowVar x s q) := sub_row hrow
      rw [e4]
      exact g2 q s l hq hl
    | _ => exact absurd (show false = true from h) (by simp)
end fits

/-! ### patterns -/

/-- a state: its variables from 'base' on are k; the slots that are known; the blocks; the tokens' least numbers; the ranges; the conditions -/
structure Pn where
  base : Nat
  k : Nat
  slots : List (Nat × V)
  blks : List (Nat × Blk)
  nb : Nat
  nt : Nat
  toks : List (Nat × Nat)
  rng : List (Int × Int)
  cs : List (B × Bool)

noncomputable def lookV (l : List (Nat × V)) (j : Nat) : V := (List.rec (motive := fun _ => V) (.bad) (fun t _ ih => (Bool.rec (motive := fun _ => V) (ih) (t.2) (Nat.beq j t.1))) (l))
noncomputable def layB (l : List (Nat × Blk)) : Tr Blk := (List.rec (motive := fun _ => Tr Blk) (.nil) (fun b _ ih => ih.set b.1 b.2) (l))
noncomputable def layT (l : List (Nat × Nat)) : Tr Nat := (List.rec (motive := fun _ => Tr Nat) (.nil) (fun b _ ih => ih.set b.1 b.2) (l))

noncomputable def Pn.env (pn : Pn) : Env := lookV pn.slots
noncomputable def Pn.mem (pn : Pn) : Mem := ⟨layB pn.blks, pn.nb, layT pn.toks, pn.nt⟩
def Pn.pc (pn : Pn) : Pc := ⟨pn.cs, pn.rng⟩

noncomputable def distF {α : Type} (f : α → Nat) (l : List α) : Bool := (List.rec (motive := fun _ => Bool) (true) (fun x q ih => andB (allL (fun y => notB (Nat.beq (f x) (f y))) q) ih) (l))

noncomputable def fitOb (r : Ren) (rng : List (Int × Int)) (nb nt : Nat) (b : Blk) (b' : Option Blk) : Bool := (Option.rec (motive := fun _ => Bool) (false) (fun b' => fitBk r rng nb nt b b') (b'))
noncomputable def fitTk (r : Ren) (nt : Nat) (m : Mem) (t : Nat × Nat) : Bool := (Option.rec (motive := fun _ => Bool) (false) (fun n => andB (Nat.blt t.1 nt) (Nat.ble t.2 n)) (m.tok.get (lookN r.τ t.1)))

noncomputable def fitAll (pn : Pn) (r : Ren) (rng : List (Int × Int)) (env : Env) (m : Mem) : Bool :=
  andB (andB (Nat.ble 4096 pn.nb) (andB (Nat.ble (Nat.add r.base (lenL r.s)) 1000) (allL (fun x => Nat.ble 4096 x.1) r.σ)))
    (andB (allL (fun x => fitV r rng pn.nb pn.nt x.2 (env x.1)) pn.slots)
      (andB (allL (fun x => andB (Nat.blt x.1 pn.nb) (fitOb r rng pn.nb pn.nt x.2 (m.tr.get (lookN r.σ x.1)))) pn.blks)
        (andB (distF (fun x => lookN r.σ x.1) pn.blks) (allL (fitTk r pn.nt m) pn.toks))))

theorem lookV_cases (l : List (Nat × V)) (j : Nat) : lookV l j = .bad ∨ (j, lookV l j) ∈ l := by
  induction l with
  | nil => exact .inl rfl
  | cons t l ih =>
    have e : lookV (t :: l) j = (Bool.rec (lookV l j) t.2 (Nat.beq j t.1) : V) := rfl
    rw [e]
    cases h : Nat.beq j t.1 with
    | true => rw [beq_iff] at h; subst h; exact .inr (.head _)
    | false => exact ih.imp id fun h => .tail _ h

theorem layB_get {l : List (Nat × Blk)} {i : Nat} {b : Blk} (h : (layB l).get i = some b) : (i, b) ∈ l := by
  induction l with
  | nil => simp [layB, Tr.get] at h
  | cons t l ih =>
    have h : ((layB l).set t.1 t.2).get i = some b := h
    rw [Tr.get_set] at h
    split at h
    · rename_i e; simp at h; subst h; subst e; exact .head _
    · exact .tail _ (ih h)

theorem layT_get {l : List (Nat × Nat)} {i b : Nat} (h : (layT l).get i = some b) : (i, b) ∈ l := by
  induction l with
  | nil => simp [layT, Tr.get] at h
  | cons t l ih =>
    have h : ((layT l).set t.1 t.2).get i = some b := h
    rw [Tr.get_set] at h
    split at h
    · rename_i e; simp at h; subst h; subst e; exact .head _
    · exact .tail _ (ih h)

theorem distF_ok {α : Type} {f : α → Nat} : ∀ {l : List α}, distF f l = true → ∀ x ∈ l, ∀ y ∈ l, x ≠ y → f x ≠ f y
  | [], _, x, hx, _, _, _ => nomatch hx
  | a :: l, h, x, hx, y, hy, hne => by
    obtain ⟨h1, h2⟩ := andB_ok (show andB (allL (fun y => notB (Nat.beq (f a) (f y))) l) (distF f l) = true from h)
    have key : ∀ z ∈ l, f a ≠ f z := fun z hz e => by
      have := allL_ok h1 z hz
      rw [notB_eq, (beq_iff _ _).2 e] at this
      exact absurd this (by simp)
    cases hx with
    | head =>
      cases hy with
      | head => exact absurd rfl hne
      | tail _ hy => exact key y hy
    | tail _ hx =>
      cases hy with
      | head => exact (key x hx).symm
      | tail _ hy => exact distF_ok h2 x hx y hy hne

theorem lookN_old {l : List (Nat × Nat)} (h : allL (fun x => Nat.ble 4096 x.1) l = true) {i : Nat} (hi : i < 4096) : lookN l i = i := by
  induction l with
  | nil => rfl
  | cons t l ih =>
    have h1 := allL_ok h t (.head _)
    rw [ble_iff] at h1
    have e : lookN (t :: l) i = (Bool.rec (lookN l i) t.2 (Nat.beq i t.1) : Nat) := rfl
    rw [e, (beq_false i t.1).2 (by omega)]
    refine ih ?_
    have h : (Bool.rec false (allL (fun x => Nat.ble 4096 x.1) l) (Nat.ble 4096 t.1) : Bool) = true := h
    rw [(ble_iff _ _).2 h1] at h
    exact h

section fits
variable {c : Cx} {r : Ren} {w : World} {pn : Pn} {q : Pc} {env : Env} {m : Mem} {n : Nat} {a : Act}

theorem fitAll_row (h : fitAll pn r q.rng env m = true) : Nat.ble (Nat.add r.base r.s.length) 1000 = true := by
  obtain ⟨h1, _⟩ := andB_ok h
  obtain ⟨_, h1⟩ := andB_ok h1
  obtain ⟨h1, _⟩ := andB_ok h1
  rw [lenL_eq] at h1; exact h1

/-- what fits the pattern -/
theorem fitAll_ok (h : fitAll pn r q.rng env m = true) (hq : PcR c.ρ q) (hm : MemR c m w) (he : EnvR c n env a) :
    MemR (c.re r pn.nb pn.nt) pn.mem w ∧ EnvR (c.re r pn.nb pn.nt) n pn.env a ∧ ∀ b, Wr (c.re r pn.nb pn.nt) pn.mem b → Wr c m b := by
  have hrow := fitAll_row h
  obtain ⟨h1, h2⟩ := andB_ok h
  obtain ⟨h3, h4⟩ := andB_ok h1
  obtain ⟨_, h4⟩ := andB_ok h4
  obtain ⟨h5, h6⟩ := andB_ok h2
  obtain ⟨h7, h8⟩ := andB_ok h6
  obtain ⟨h9, h10⟩ := andB_ok h8
  rw [ble_iff] at h3
  have hb : ∀ (j : Nat) (b : Blk), pn.mem.tr.get j = some b → (j, b) ∈ pn.blks ∧ j < pn.nb ∧ ∃ b', m.tr.get (lookN r.σ j) = some b' ∧ b' ≠ .rsv ∧ (b.wrB = true → b'.wrB = true) ∧ (b.plB = true → b'.plB = true) ∧ (b.live (c.re r pn.nb pn.nt) → b'.live c) ∧ ∀ loc, BlkR c w loc b' → BlkR (c.re r pn.nb pn.nt) w loc b := by
    intro j b hj
    have hmem := layB_get (show (layB pn.blks).get j = some b from hj)
    obtain ⟨k1, k2⟩ := andB_ok (allL_ok h7 _ hmem)
    rw [blt_iff] at k1
    refine ⟨hmem, k1, ?_⟩
    cases hg : m.tr.get (lookN r.σ j) with
    | none =>
      have k2 : fitOb r q.rng pn.nb pn.nt b (m.tr.get (lookN r.σ j)) = true := k2
      rw [hg] at k2; exact absurd (show false = true from k2) (by simp)
    | some b' =>
      have k2 : fitOb r q.rng pn.nb pn.nt b (m.tr.get (lookN r.σ j)) = true := k2
      rw [hg] at k2
      exact ⟨b', rfl, fitBk_ok hrow hq.rng (show fitBk r q.rng pn.nb pn.nt b b' = true from k2)⟩
  refine ⟨⟨rfl, rfl, ?_, ?_, ?_⟩, ⟨he.size, ?_, ?_⟩, ?_⟩
  · intro i b hi
    obtain ⟨_, g1, b', g2, gr, _, _, _, g5⟩ := hb i b hi
    rcases (hm.blk _ b' g2).known with ⟨e, _⟩ | ⟨k1, k2⟩
    · exact absurd e gr
    · exact .of ⟨g1, k1⟩ (g5 _ k2)
  · intro i j b b' hi hj hij hap l1 l2
    obtain ⟨m1, _, d, g2, _, g3, g4, g6, _⟩ := hb i b hi
    obtain ⟨m2, _, d', g2', _, g3', g4', g6', _⟩ := hb j b' hj
    refine hm.inj _ _ d d' g2 g2' ?_ ?_ (g6 l1) (g6' l2)
    · exact distF_ok h9 _ m1 _ m2 (fun e => hij (congrArg Prod.fst e))
    · unfold Blk.apt at *
      simp only [Bool.or_eq_true, Bool.and_eq_true] at *
      rcases hap with (h | h) | ⟨h, h'⟩
      · exact .inl (.inl (g3 h))
      · exact .inl (.inr (g3' h))
      · exact .inr ⟨g4 h, g4' h'⟩
  · intro t k ht
    have hmem := layT_get (show (layT pn.toks).get t = some k from ht)
    have h := allL_ok h10 _ hmem
    have h : (Option.rec false (fun n => andB (Nat.blt t pn.nt) (Nat.ble k n)) (m.tok.get (lookN r.τ t)) : Bool) = true := h
    cases hg : m.tok.get (lookN r.τ t) with
    | none => rw [hg] at h; exact absurd (show false = true from h) (by simp)
    | some k' =>
      rw [hg] at h
      obtain ⟨k1, k2⟩ := andB_ok (show andB (Nat.blt t pn.nt) (Nat.ble k k') = true from h)
      rw [blt_iff] at k1; rw [ble_iff] at k2
      exact ⟨k1, Nat.le_trans k2 (hm.tok _ _ hg).2⟩
  · intro j
    rcases lookV_cases pn.slots j with e | hmem
    · show VR _ (lookV pn.slots j) _
      rw [e]; exact VR.bad
    · exact fitV_R hrow hq.rng (allL_ok h5 _ hmem) (he.slot j)
  · refine ⟨h3, fun i hi => ?_⟩
    have e := lookN_old h4 (Nat.lt_of_lt_of_le hi (by decide))
    refine ⟨⟨Nat.lt_of_lt_of_le hi (Nat.le_trans (by decide) h3), ?_⟩, ?_⟩
    · show c.has (lookN r.σ i)
      rw [e]; exact (he.glob.2 i hi).1
    · show c.β (lookN r.σ i) = (i, 0)
      rw [e]; exact (he.glob.2 i hi).2
  · rintro b ⟨i, blk, k7, k8, k9⟩
    obtain ⟨_, _, d, g2, _, g3, _, _, _⟩ := hb i blk k7
    exact ⟨_, d, g2, g3 k8, k9⟩
end fits

/-! ### the path -/

noncomputable def inIv (o : Option (Int × Int)) (lo hi : Int) : Bool := (Option.rec (motive := fun _ => Bool) (false) (fun b => andB (leZ lo b.1) (leZ b.2 hi)) (o))
noncomputable def fitIv (q : Pc) (r : Ren) (i : Nat) (lo hi : Int) : Bool := (Option.rec (motive := fun _ => Bool) (inIv (ivf q (.x i)) lo hi) (fun g => (G.rec (motive := fun _ => Bool) (fun a => inIv (ivf q a) lo hi) (fun _ => andB (leZ lo 0) (leZ 1 hi)) (g))) (r.g i))
noncomputable def fitRng (q : Pc) (r : Ren) (l : List (Int × Int)) : Nat → Bool := (List.rec (motive := fun _ => Nat → Bool) (fun _ => true) (fun x _ ih => fun i => andB (fitIv q r i x.1 x.2) (ih (Nat.succ i))) (l))
noncomputable def fitC (q : Pc) (r : Ren) (c : B × Bool) : Bool := andB (okB r c.1) ((Option.rec (motive := fun _ => Bool) (false) (fun v => eqB v c.2) (decE q (instB r c.1))))
noncomputable def fitPc (pn : Pn) (r : Ren) (q : Pc) : Bool := andB (fitRng q r pn.rng 0) (allL (fitC q r) pn.cs)

section path
variable {r : Ren} {q : Pc} {ρ : Nat → Int}

theorem fitIv_ok (hq : PcR ρ q) {i : Nat} {lo hi : Int} (h : fitIv q r i lo hi = true) : lo ≤ sub r.base r.s ρ i ∧ sub r.base r.s ρ i ≤ hi := by
  have key : ∀ a : E, inIv (ivf q a) lo hi = true → lo ≤ a.den ρ ∧ a.den ρ ≤ hi := by
    intro a ha
    have ho := ivf_ok hq a
    cases e : ivf q a with
    | none => rw [e] at ha; exact absurd (show false = true from ha) (by simp)
    | some b =>
      rw [e] at ha ho
      obtain ⟨h1, h2⟩ := andB_ok (show andB (leZ lo b.1) (leZ b.2 hi) = true from ha)
      rw [leZ_iff] at h1 h2
      obtain ⟨h3, h4⟩ := ho b.1 b.2 rfl
      exact ⟨Int.le_trans h1 h3, Int.le_trans h4 h2⟩
  rw [Ren.g_sub]
  unfold fitIv at h
  cases hg : r.g i with
  | none => rw [hg] at h; exact key (.x i) h
  | some g =>
    rw [hg] at h
    cases g with
    | ofE a => exact key a h
    | ofB b =>
      obtain ⟨h1, h2⟩ := andB_ok (show andB (leZ lo 0) (leZ 1 hi) = true from h)
      rw [leZ_iff] at h1 h2
      show lo ≤ (if b.den ρ = true then (1 : Int) else 0) ∧ (if b.den ρ = true then (1 : Int) else 0) ≤ hi
      split <;> omega

theorem fitRng_ok (hq : PcR ρ q) : ∀ {l : List (Int × Int)} {i : Nat}, fitRng q r l i = true → ∀ j lo hi, l[j]? = some (lo, hi) → lo ≤ sub r.base r.s ρ (i + j) ∧ sub r.base r.s ρ (i + j) ≤ hi
  | [], _, _, _, _, _, h => by simp at h
  | x :: l, i, h, j, lo, hi, hj => by
    obtain ⟨h1, h2⟩ := andB_ok (show andB (fitIv q r i x.1 x.2) (fitRng q r l (Nat.succ i)) = true from h)
    cases j with
    | zero =>
      have hj : some x = some (lo, hi) := hj
      simp at hj; subst hj
      exact fitIv_ok hq h1
    | succ j =>
      have := fitRng_ok hq h2 j lo hi (show l[j]? = some (lo, hi) from hj)
      rw [show i + (j + 1) = Nat.succ i + j by omega]; exact this

theorem fitPc_ok {pn : Pn} (hrow : Nat.ble (Nat.add r.base r.s.length) 1000 = true) (hq : PcR ρ q) (h : fitPc pn r q = true) : PcR (sub r.base r.s ρ) pn.pc := by
  obtain ⟨h1, h2⟩ := andB_ok h
  refine ⟨fun x hx => ?_, fun i lo hi hi' => ?_⟩
  · obtain ⟨h3, h4⟩ := andB_ok (allL_ok h2 x hx)
    cases hd : decE q (instB r x.1) with
    | none => rw [hd] at h4; exact absurd (show false = true from h4) (by simp)
    | some v =>
      rw [hd] at h4
      have h4 := eqB_iff' (show eqB v x.2 = true from h4)
      rw [← instB_den hrow h3, decE_ok hq hd, h4]
  · have := fitRng_ok hq h1 i lo hi hi'
    rw [Nat.zero_add] at this; exact this
end path

/-! ### finding what stands for a pattern's variables, names and tokens: only what comes of it is looked at -/

structure Bd where
  s : List (Nat × G)
  σ : List (Nat × Nat)
  τ : List (Nat × Nat)

noncomputable def hasK {α : Type} (l : List (Nat × α)) (j : Nat) : Bool := (List.rec (motive := fun _ => Bool) (false) (fun t _ ih => (Bool.rec (motive := fun _ => Bool) (ih) (true) (Nat.beq j t.1))) (l))
noncomputable def lookG (l : List (Nat × G)) (j : Nat) : G := (List.rec (motive := fun _ => G) (.ofE (.n 0)) (fun t _ ih => (Bool.rec (motive := fun _ => G) (ih) (t.2) (Nat.beq j t.1))) (l))

noncomputable def bdX (base i : Nat) (g : G) (b : Bd) : Bd := selB (orB (Nat.blt i base) (hasK b.s i)) b ⟨(i, g) :: b.s, b.σ, b.τ⟩
noncomputable def bdN (i j : Nat) (b : Bd) : Bd := selB (orB (Nat.blt i 4096) (hasK b.σ i)) b ⟨b.s, (i, j) :: b.σ, b.τ⟩
noncomputable def bdT (i j : Nat) (b : Bd) : Bd := selB (hasK b.τ i) b ⟨b.s, b.σ, (i, j) :: b.τ⟩
noncomputable def bdE (base : Nat) (e e' : E) (b : Bd) : Bd := (E.rec (motive := fun _ => Bd) (fun _ => b) (fun i => bdX base i (.ofE e') b) (fun _ _ _ _ _ _ => b) (fun _ _ _ => b) (fun _ _ _ _ _ _ => b) (fun _ _ _ _ _ => b) (e))
noncomputable def bdEs (base : Nat) (a : List E) : List E → Bd → Bd := (List.rec (motive := fun _ => List E → Bd → Bd) (fun _ b => b) (fun x _ ih => fun l b => (List.rec (motive := fun _ => Bd) (b) (fun y l _ => ih l (bdE base x y b)) (l))) (a))

/-- a condition as what stands for a variable -/
noncomputable def asG (c : B) : G := (B.rec (motive := fun _ => G) (fun v => .ofE (.n (selB v 1 0))) (fun _ _ => .ofB c) (fun a b => onN b (fun z => selB (andB (eqZ z 1) (isVar a)) (.ofE a) (.ofB c)) (.ofB c)) (fun _ _ => .ofB c) (c))
noncomputable def bdB (base : Nat) (c c' : B) (b : Bd) : Bd := (B.rec (motive := fun _ => Bd) (fun _ => b) (fun _ _ => b) (fun a e => onN e (fun z => selB (eqZ z 1) ((E.rec (motive := fun _ => Bd) (fun _ => b) (fun i => bdX base i (asG c') b) (fun _ _ _ _ _ _ => b) (fun _ _ _ => b) (fun _ _ _ _ _ _ => b) (fun _ _ _ _ _ => b) (a))) b) b) (fun _ _ => b) (c))
noncomputable def bdCp (a a' : Cp) (b : Bd) : Bd := (Cp.rec (motive := fun _ => Bd) (fun _ => b) (fun i _ => (Cp.rec (motive := fun _ => Bd) (fun _ => b) (fun j _ => bdT i j b) (b) (a'))) (b) (a))

noncomputable def bdV (base : Nat) (a : V) : V → Bd → Bd := V.rec (motive_1 := fun _ => V → Bd → Bd) (motive_2 := fun _ => List V → Bd → Bd)
  (fun c y b => (V.rec (motive_1 := fun _ => Bd) (motive_2 := fun _ => Unit) (fun c' => bdB base c c' b) (fun _ _ => b) (fun _ => b) (b) (fun _ _ => b) (b) (fun _ _ _ _ => b) (b) (fun _ => b) (fun _ _ _ _ _ => b) (b) (fun _ _ _ => b) (b) (fun _ _ => b) (fun _ _ => b) (b) (fun _ _ _ => b) (fun _ _ _ _ => b) (fun _ _ => b) (fun _ => b) Unit.unit (fun _ _ _ _ => Unit.unit) (y)))
  (fun _ e y b => (V.rec (motive_1 := fun _ => Bd) (motive_2 := fun _ => Unit) (fun _ => b) (fun _ e' => bdE base e e' b) (fun _ => b) (b) (fun _ _ => b) (b) (fun _ _ _ _ => b) (b) (fun _ => b) (fun _ _ _ _ _ => b) (b) (fun _ _ _ => b) (b) (fun _ _ => b) (fun _ _ => b) (b) (fun _ _ _ => b) (fun _ _ _ _ => b) (fun _ _ => b) (fun _ => b) Unit.unit (fun _ _ _ _ => Unit.unit) (y)))
  (fun l y b => (V.rec (motive_1 := fun _ => Bd) (motive_2 := fun _ => Unit) (fun _ => b) (fun _ _ => b) (fun l' => bdEs base l l' b) (b) (fun _ _ => b) (b) (fun _ _ _ _ => b) (b) (fun _ => b) (fun _ _ _ _ _ => b) (b) (fun _ _ _ => b) (b) (fun _ _ => b) (fun _ _ => b) (b) (fun _ _ _ => b) (fun _ _ _ _ => b) (fun _ _ => b) (fun _ => b) Unit.unit (fun _ _ _ _ => Unit.unit) (y)))
  (fun _ b => b)
  (fun i _ y b => (V.rec (motive_1 := fun _ => Bd) (motive_2 := fun _ => Unit) (fun _ => b) (fun _ _ => b) (fun _ => b) (b) (fun i' _ => bdN i i' b) (b) (fun _ _ _ _ => b) (b) (fun _ => b) (fun _ _ _ _ _ => b) (b) (fun _ _ _ => b) (b) (fun _ _ => b) (fun _ _ => b) (b) (fun _ _ _ => b) (fun _ _ _ _ => b) (fun _ _ => b) (fun _ => b) Unit.unit (fun _ _ _ _ => Unit.unit) (y)))
  (fun _ b => b)
  (fun i _ _ c y b => (V.rec (motive_1 := fun _ => Bd) (motive_2 := fun _ => Unit) (fun _ => b) (fun _ _ => b) (fun _ => b) (b) (fun _ _ => b) (b) (fun i' _ _ c' => bdCp c c' (bdN i i' b)) (b) (fun _ => b) (fun _ _ _ _ _ => b) (b) (fun _ _ _ => b) (b) (fun _ _ => b) (fun _ _ => b) (b) (fun _ _ _ => b) (fun _ _ _ _ => b) (fun _ _ => b) (fun _ => b) Unit.unit (fun _ _ _ _ => Unit.unit) (y)))
  (fun _ b => b)
  (fun i y b => (V.rec (motive_1 := fun _ => Bd) (motive_2 := fun _ => Unit) (fun _ => b) (fun _ _ => b) (fun _ => b) (b) (fun _ _ => b) (b) (fun _ _ _ _ => b) (b) (fun i' => bdN i i' b) (fun _ _ _ _ _ => b) (b) (fun _ _ _ => b) (b) (fun _ _ => b) (fun _ _ => b) (b) (fun _ _ _ => b) (fun _ _ _ _ => b) (fun _ _ => b) (fun _ => b) Unit.unit (fun _ _ _ _ => Unit.unit) (y)))
  (fun _ _ _ ia ib y b => (V.rec (motive_1 := fun _ => Bd) (motive_2 := fun _ => Unit) (fun _ => b) (fun _ _ => b) (fun _ => b) (b) (fun _ _ => b) (b) (fun _ _ _ _ => b) (b) (fun _ => b) (fun _ a' b' _ _ => ib b' (ia a' b)) (b) (fun _ _ _ => b) (b) (fun _ _ => b) (fun _ _ => b) (b) (fun _ _ _ => b) (fun _ _ _ _ => b) (fun _ _ => b) (fun _ => b) Unit.unit (fun _ _ _ _ => Unit.unit) (y)))
  (fun _ b => b)
  (fun _ _ ih y b => (V.rec (motive_1 := fun _ => Bd) (motive_2 := fun _ => Unit) (fun _ => b) (fun _ _ => b) (fun _ => b) (b) (fun _ _ => b) (b) (fun _ _ _ _ => b) (b) (fun _ => b) (fun _ _ _ _ _ => b) (b) (fun _ v' _ => ih v' b) (b) (fun _ _ => b) (fun _ _ => b) (b) (fun _ _ _ => b) (fun _ _ _ _ => b) (fun _ _ => b) (fun _ => b) Unit.unit (fun _ _ _ _ => Unit.unit) (y)))
  (fun _ b => b)
  (fun _ ih y b => (V.rec (motive_1 := fun _ => Bd) (motive_2 := fun _ => Unit) (fun _ => b) (fun _ _ => b) (fun _ => b) (b) (fun _ _ => b) (b) (fun _ _ _ _ => b) (b) (fun _ => b) (fun _ _ _ _ _ => b) (b) (fun _ _ _ => b) (b) (fun l' _ => ih l' b) (fun _ _ => b) (b) (fun _ _ _ => b) (fun _ _ _ _ => b) (fun _ _ => b) (fun _ => b) Unit.unit (fun _ _ _ _ => Unit.unit) (y)))
  (fun _ ih y b => (V.rec (motive_1 := fun _ => Bd) (motive_2 := fun _ => Unit) (fun _ => b) (fun _ _ => b) (fun _ => b) (b) (fun _ _ => b) (b) (fun _ _ _ _ => b) (b) (fun _ => b) (fun _ _ _ _ _ => b) (b) (fun _ _ _ => b) (b) (fun _ _ => b) (fun l' _ => ih l' b) (b) (fun _ _ _ => b) (fun _ _ _ _ => b) (fun _ _ => b) (fun _ => b) Unit.unit (fun _ _ _ _ => Unit.unit) (y)))
  (fun _ b => b)
  (fun i _ n y b => (V.rec (motive_1 := fun _ => Bd) (motive_2 := fun _ => Unit) (fun _ => b) (fun _ _ => b) (fun _ => b) (b) (fun _ _ => b) (b) (fun _ _ _ _ => b) (b) (fun _ => b) (fun _ _ _ _ _ => b) (b) (fun _ _ _ => b) (b) (fun _ _ => b) (fun _ _ => b) (b) (fun i' _ n' => bdE base n n' (bdN i i' b)) (fun _ _ _ _ => b) (fun _ _ => b) (fun _ => b) Unit.unit (fun _ _ _ _ => Unit.unit) (y)))
  (fun i _ e _ y b => (V.rec (motive_1 := fun _ => Bd) (motive_2 := fun _ => Unit) (fun _ => b) (fun _ _ => b) (fun _ => b) (b) (fun _ _ => b) (b) (fun _ _ _ _ => b) (b) (fun _ => b) (fun _ _ _ _ _ => b) (b) (fun _ _ _ => b) (b) (fun _ _ => b) (fun _ _ => b) (b) (fun _ _ _ => b) (fun i' _ e' _ => bdE base e e' (bdN i i' b)) (fun _ _ => b) (fun _ => b) Unit.unit (fun _ _ _ _ => Unit.unit) (y)))
  (fun i z y b => (V.rec (motive_1 := fun _ => Bd) (motive_2 := fun _ => Unit) (fun _ => b) (fun _ _ => b) (fun _ => b) (b) (fun _ _ => b) (b) (fun _ _ _ _ => b) (b) (fun _ => b) (fun _ _ _ _ _ => b) (b) (fun _ _ _ => b) (b) (fun _ _ => b) (fun _ _ => b) (b) (fun _ _ _ => b) (fun _ _ _ _ => b) (fun i' z' => (Option.rec (motive := fun _ => Bd) (bdN i i' b) (fun x => (Option.rec (motive := fun _ => Bd) (bdN i i' b) (fun w => bdT x.2.1 w.2.1 (bdN i i' b)) (z'))) (z))) (fun _ => b) Unit.unit (fun _ _ _ _ => Unit.unit) (y)))
  (fun i y b => (V.rec (motive_1 := fun _ => Bd) (motive_2 := fun _ => Unit) (fun _ => b) (fun _ _ => b) (fun _ => b) (b) (fun _ _ => b) (b) (fun _ _ _ _ => b) (b) (fun _ => b) (fun _ _ _ _ _ => b) (b) (fun _ _ _ => b) (b) (fun _ _ => b) (fun _ _ => b) (b) (fun _ _ _ => b) (fun _ _ _ _ => b) (fun _ _ => b) (fun i' => bdN i i' b) Unit.unit (fun _ _ _ _ => Unit.unit) (y)))
  (fun _ b => b)
  (fun _ _ ih il l b => (List.rec (motive := fun _ => Bd) (b) (fun y l _ => il l (ih y b)) (l)))
  a

noncomputable def bdL (base : Nat) (l : List V) : List V → Bd → Bd := (List.rec (motive := fun _ => List V → Bd → Bd) (fun _ b => b) (fun v _ ih => fun us b => (List.rec (motive := fun _ => Bd) (b) (fun u us _ => ih us (bdV base v u b)) (us))) (l))
noncomputable def bdKv (base : Nat) (l : List (V × V)) : List (V × V) → Bd → Bd := (List.rec (motive := fun _ => List (V × V) → Bd → Bd) (fun _ b => b) (fun v _ ih => fun us b => (List.rec (motive := fun _ => Bd) (b) (fun u us _ => ih us (bdV base v.2 u.2 (bdV base v.1 u.1 b))) (us))) (l))
noncomputable def bdKm (base : Nat) (l : List (V × V)) : List (V × V × Nat) → Bd → Bd := (List.rec (motive := fun _ => List (V × V × Nat) → Bd → Bd) (fun _ b => b) (fun v _ ih => fun us b => (List.rec (motive := fun _ => Bd) (b) (fun u us _ => ih us (bdV base v.2 u.2.1 (bdV base v.1 u.1 b))) (us))) (l))
noncomputable def bdG (a a' : Option (Nat × Nat)) (b : Bd) : Bd := (Option.rec (motive := fun _ => Bd) (b) (fun x => (Option.rec (motive := fun _ => Bd) (b) (fun y => bdT x.1 y.1 b) (a'))) (a))
noncomputable def bdKb (base : Nat) (l : List (V × V × Nat)) : List (V × V × Nat) → Bd → Bd := (List.rec (motive := fun _ => List (V × V × Nat) → Bd → Bd) (fun _ b => b) (fun v _ ih => fun us b => (List.rec (motive := fun _ => Bd) (b) (fun u us _ => ih us (bdV base v.2.1 u.2.1 (bdV base v.1 u.1 b))) (us))) (l))
noncomputable def bdBk (base : Nat) (k : Blk) (k' : Option Blk) (b : Bd) : Bd := (Option.rec (motive := fun _ => Bd) (b) (fun k' => (Blk.rec (motive := fun _ => Bd) (fun l _ _ g => (Blk.rec (motive := fun _ => Bd) (fun l' _ _ g' => bdG g g' (bdL base l l' b)) (fun _ _ _ => b) (fun _ _ => b) (fun _ _ _ => b) (fun _ _ => b) (b) (fun _ _ _ _ _ _ _ => b) (k'))) (fun es _ _ => (Blk.rec (motive := fun _ => Bd) (fun _ _ _ _ => b) (fun es' _ _ => bdKb base es es' b) (fun _ _ => b) (fun _ _ _ => b) (fun _ _ => b) (b) (fun _ _ _ _ _ _ _ => b) (k'))) (fun _ _ => b) (fun _ _ n => (Blk.rec (motive := fun _ => Bd) (fun _ _ _ _ => b) (fun _ _ _ => b) (fun _ _ => b) (fun _ _ n' => bdE base n n' b) (fun _ _ => b) (b) (fun _ _ _ _ _ _ _ => b) (k'))) (fun es _ => (Blk.rec (motive := fun _ => Bd) (fun _ _ _ _ => b) (fun es' _ _ => bdKm base es es' b) (fun _ _ => b) (fun _ _ _ => b) (fun es' _ => bdKv base es es' b) (b) (fun _ _ _ _ _ _ _ => b) (k'))) (b) (fun _ _ _ _ _ _ _ => b) (k))) (k'))
noncomputable def bdSl (base : Nat) (l : List (Nat × V)) : Env → Bd → Bd := (List.rec (motive := fun _ => Env → Bd → Bd) (fun _ b => b) (fun x _ ih => fun env b => ih env (bdV base x.2 (env x.1) b)) (l))
noncomputable def bdBs (base : Nat) (l : List (Nat × Blk)) : Mem → Bd → Bd := (List.rec (motive := fun _ => Mem → Bd → Bd) (fun _ b => b) (fun x _ ih => fun m b => ih m (bdBk base x.2 (m.tr.get (lookN b.σ x.1)) b)) (l))

noncomputable def sOf (l : List (Nat × G)) (n : Nat) : Nat → List G := (Nat.rec (motive := fun _ => Nat → List G) (fun _ => []) (fun _ ih => fun i => lookG l i :: ih (Nat.succ i)) (n))
noncomputable def renOf (pn : Pn) (b : Bd) : Ren := ⟨pn.base, sOf b.s pn.k pn.base, b.σ, b.τ⟩
noncomputable def findR (pn : Pn) (env : Env) (m : Mem) : Ren := renOf pn (bdBs pn.base pn.blks m (bdSl pn.base pn.slots env ⟨[], [], []⟩))

end Go.Sy

/-
  What is proved here: a law in pieces whose leaves are all decided: up to a place, loops with several heads, to the end.
  Conditions: none.
-/
namespace Go.Sy
open Go.RowKit (Below)

/-- states at a place, by number; which of them are meant; how near the end they are; which one a state is to fit -/
structure Hds where
  pn : Nat → Pn
  ok : Nat → Bool
  mu : Nat → Nat
  pick : Env → Mem → Nat

/-- into one of the states; 'k': what is asked besides -/
noncomputable def toHd (H : Hds) (k : Nat → Ren → Bool) (env : Env) (m : Mem) (q : Pc) : Bool :=
  forceN (H.pick env m) fun h => andB (H.ok h) (andB (fitAll (H.pn h) (findR (H.pn h) env m) q.rng env m) (andB (fitPc (H.pn h) (findR (H.pn h) env m) q) (k h (findR (H.pn h) env m))))

/-- the law's value is true -/
noncomputable def retB (t : Nat) (env : Env) (q : Pc) : Bool := onBool (env t) (fun b => (Option.rec (motive := fun _ => Bool) (false) (fun v => v) (decE q b))) false

abbrev Lfn : Type := X → Env → Mem → Pc → Bool

noncomputable def goodT (f : Lfn) (t : T (Rs XE)) : Bool := (T.rec (motive := fun _ => Bool) (fun r => onXE r.v fun x env => f x env r.m r.p) (fun _ _ _ ix iy => andB ix iy) (fun _ => false) (t))

/-- at the end of a round -/
noncomputable def leafL (H HX : Hds) (lt : Nat → Nat → Ren → Bool) (id t h : Nat) : Lfn := fun x env m q => (X.rec (motive := fun _ => Bool) (toHd H (lt h) env m q) (fun i => andB (Nat.beq i id) (toHd HX (fun _ _ => true) env m q)) (retB t env q) (fun _ => false) (x))
/-- at a place -/
noncomputable def leafH (H : Hds) (t : Nat) : Lfn := fun x env m q => (X.rec (motive := fun _ => Bool) (toHd H (fun _ _ => true) env m q) (fun _ => false) (retB t env q) (fun _ => false) (x))
/-- at the end -/
noncomputable def leafR (t : Nat) : Lfn := fun x env _ q => (X.rec (motive := fun _ => Bool) (retB t env q) (fun _ => false) (retB t env q) (fun _ => false) (x))

theorem goodT_out {f : Lfn} (ρ : Nat → Int) : ∀ {t : T (Rs XE)}, goodT f t = true → ∃ x env m q, t.out ρ = some ⟨⟨x, env⟩, m, q⟩ ∧ f x env m q = true
  | .ret ⟨⟨x, env⟩, m, q⟩, h => ⟨x, env, m, q, rfl, h⟩
  | .br c x y, h => by
    obtain ⟨h1, h2⟩ := andB_ok (show andB (goodT f x) (goodT f y) = true from h)
    simp only [T.out]
    cases c.den ρ with
    | true => simpa using goodT_out ρ h1
    | false => simpa using goodT_out ρ h2
  | .fail _, h => absurd (show false = true from h) (by simp)

section pieces
variable {P : Program} {cf : FuncId → List V → M V} {W0 : World} {n : Nat} {a : Act} {w : World} {fn : Func} {t : Nat}

/-- the frame is in the state h -/
def AtHd (W0 : World) (H : Hds) (n h : Nat) (J : (Nat → Int) → Prop) (a : Act) (w : World) : Prop := At W0 J (H.pn h).mem n (H.pn h).env (H.pn h).pc a w

theorem toHd_ok {H : Hds} {k : Nat → Ren → Bool} {env : Env} {m : Mem} {q : Pc} (h : toHd H k env m q = true) {ρ : Nat → Int} (hA : At W0 (fun ρ' => ρ' = ρ) m n env q a w) :
    ∃ h' r, H.ok h' = true ∧ k h' r = true ∧ AtHd W0 H n h' (fun ρ' => ρ' = sub r.base r.s ρ) a w := by
  unfold toHd at h
  rw [forceN_eq] at h
  obtain ⟨h1, h2⟩ := andB_ok h
  obtain ⟨h3, h4⟩ := andB_ok h2
  obtain ⟨h5, h6⟩ := andB_ok h4
  refine ⟨_, _, h1, h6, ?_⟩
  obtain ⟨c, rfl, hm, hp, he, hd, hb, hw⟩ := hA
  obtain ⟨g1, g2, g3⟩ := fitAll_ok h3 hp hm he
  exact ⟨_, rfl, g1, fitPc_ok (fitAll_row h3) hp h5, g2, hd, hb, fun b hb' => hw b (g3 b hb')⟩

theorem At.pc {J : (Nat → Int) → Prop} {m : Mem} {env : Env} {p : Pc} (hA : At W0 J m n env p a w) {qs : List Pc} (hc : ∀ ρ, J ρ → PcR ρ p → ∃ q ∈ qs, PcR ρ q) :
    ∃ ρ, ∃ q ∈ qs, J ρ ∧ PcR ρ p ∧ At W0 (fun ρ' => ρ' = ρ) m n env q a w := by
  obtain ⟨c, hJ, hm, hp, he, hd, hb, hw⟩ := hA
  obtain ⟨q, hq, hpq⟩ := hc c.ρ hJ hp
  exact ⟨c.ρ, q, hq, hJ, hp, c, rfl, hm, hpq, he, hd, hb, hw⟩

theorem retB_ok (hr : fn.results = #[.tmp t]) {m : Mem} {env : Env} {q : Pc} {ρ : Nat → Int} {x : X} (hx : x = .ret ∨ x = .normal) (hA : At W0 (fun ρ' => ρ' = ρ) m n env q a w) (h : retB t env q = true) :
    bodyPost P fn (LawEnd W0) (exitOf x) a w := by
  unfold retB at h
  rcases onBool_cases (env t) (fun b => (Option.rec false (fun v => v) (decE q b) : Bool)) false with ⟨b, e, hb'⟩ | hb'
  · rw [hb'] at h
    cases hd : decE q b with
    | none => rw [hd] at h; exact absurd (show false = true from h) (by simp)
    | some v =>
      rw [hd] at h
      have hv : v = true := h
      subst hv
      refine ret_ok hr hx hA (tag := 9) (s := [.ofB b]) (by unfold boolAt; rw [e]; rfl) fun hq g hg => ?_
      simp only [List.mem_singleton] at hg
      subst hg
      show (if b.den ρ = true then (1 : Int) else 0) = 1
      rw [decE_ok hq hd]; rfl
  · rw [hb'] at h; exact absurd h (by simp)

/-- up to a place -/
theorem head_hds (hM : P.follows .mixedOrders = true) (hcf : ∀ ρ, CallsOK P ρ cf) {d : List Dir} {co : Code} (hR : codeFlat co = true) (hr : fn.results = #[.tmp t]) {it : Nat} {H : Hds} {m : Mem} {env : Env} {p : Pc} {J : (Nat → Int) → Prop}
    {Q : Exit → Act → World → Prop} {qs : List Pc} (hc : ∀ ρ, J ρ → PcR ρ p → ∃ q ∈ qs, PcR ρ q) (hg : ∀ q ∈ qs, goodT (leafH H t) (evHead P cf it n d co env m q) = true)
    (hQ : ∀ h a w, H.ok h = true → AtHd W0 H n h (fun _ => True) a w → placeWp P d co Q a w) (hQr : ∀ a w, bodyPost P fn (LawEnd W0) .ret a w → Q .ret a w)
    (hA : At W0 J m n env p a w) : co.wp P Q a w := by
  obtain ⟨ρ, q, hq, _, _, hA⟩ := hA.pc hc
  refine head_ok (it := it) (d := d) hM hcf hR hA fun ρ' hρ hp => ?_
  subst hρ
  obtain ⟨x, env', m', q', h1, h2⟩ := goodT_out ρ' (hg q hq)
  refine ⟨⟨x, env'⟩, m', q', h1, fun a' w' hA' => ?_⟩
  cases x with
  | normal =>
    obtain ⟨h', r, k1, _, k3⟩ := toHd_ok (show toHd H (fun _ _ => true) env' m' q' = true from h2) hA'
    exact hQ h' a' w' k1 (k3.mono fun _ _ _ => trivial)
  | exit i => exact absurd (show false = true from h2) (by simp)
  | goto l => exact absurd (show false = true from h2) (by simp)
  | ret => exact hQr _ _ (retB_ok hr (x := .ret) (.inl rfl) hA' h2)

/-- to the end -/
theorem end_hds (hM : P.follows .mixedOrders = true) (hcf : ∀ ρ, CallsOK P ρ cf) {co : Code} (hR : codeFlat co = true) (hr : fn.results = #[.tmp t]) {it : Nat} {m : Mem} {env : Env} {p : Pc} {J : (Nat → Int) → Prop}
    {qs : List Pc} (hc : ∀ ρ, J ρ → PcR ρ p → ∃ q ∈ qs, PcR ρ q) (hg : ∀ q ∈ qs, goodT (leafR t) (evCode co P cf it n env m q) = true)
    (hA : At W0 J m n env p a w) : co.wp P (bodyPost P fn (LawEnd W0)) a w := by
  obtain ⟨ρ, q, hq, _, _, hA⟩ := hA.pc hc
  refine piece_ok (it := it) hM hcf hR hA fun ρ' hρ hp => ?_
  subst hρ
  obtain ⟨x, env', m', q', h1, h2⟩ := goodT_out ρ' (hg q hq)
  refine ⟨⟨x, env'⟩, m', q', h1, fun a' w' hA' => ?_⟩
  cases x with
  | normal => exact retB_ok hr (x := .normal) (.inr rfl) hA' h2
  | exit i => exact absurd (show false = true from h2) (by simp)
  | goto l => exact absurd (show false = true from h2) (by simp)
  | ret => exact retB_ok hr (x := .ret) (.inl rfl) hA' h2

/-- a loop -/
theorem loop_hds (hM : P.follows .mixedOrders = true) (hcf : ∀ ρ, CallsOK P ρ cf) {co : Code} (hR : codeFlat co = true) (hr : fn.results = #[.tmp t]) {it : Nat} {H HX : Hds} {id : Nat} {lt : Nat → Nat → Ren → Bool} {Q : Exit → Act → World → Prop}
    (μ : Nat → (Nat → Int) → Nat) (hlt : ∀ h h' r ρ, H.ok h = true → H.ok h' = true → lt h h' r = true → PcR ρ (H.pn h).pc → PcR (sub r.base r.s ρ) (H.pn h').pc → μ h' (sub r.base r.s ρ) < μ h ρ)
    {cs : Nat → List Pc} (hc : ∀ h, H.ok h = true → ∀ ρ, PcR ρ (H.pn h).pc → ∃ q ∈ cs h, PcR ρ q)
    (hg : ∀ h, H.ok h = true → ∀ q ∈ cs h, goodT (leafL H HX lt id t h) (evCode co P cf it n (H.pn h).env (H.pn h).mem q) = true)
    (hQ : ∀ h a w, HX.ok h = true → AtHd W0 HX n h (fun _ => True) a w → Q (.exit id) a w) (hQr : ∀ a w, bodyPost P fn (LawEnd W0) .ret a w → Q .ret a w)
    {h : Nat} (h0 : H.ok h = true) (hA : AtHd W0 H n h (fun _ => True) a w) : (Code.loop co).wp P Q a w := by
  refine RoundWp.loop ?_
  have key : ∀ k h a w, H.ok h = true → AtHd W0 H n h (fun ρ => μ h ρ < k) a w → RoundWp P co Q a w := by
    intro k
    induction k with
    | zero =>
      intro h a w _ hA
      obtain ⟨c, hJ, _⟩ := hA
      exact absurd hJ (by omega)
    | succ k ih =>
      intro h a w h0 hA
      obtain ⟨ρ, q, hq, hμ, hp0, hA⟩ := At.pc hA fun ρ _ hp => hc h h0 ρ hp
      refine RoundWp.round (piece_ok (it := it) hM hcf hR hA fun ρ' hρ hp => ?_)
      subst hρ
      obtain ⟨x, env', m', q', h1, h2⟩ := goodT_out ρ' (hg h h0 q hq)
      refine ⟨⟨x, env'⟩, m', q', h1, fun a' w' hA' => ?_⟩
      cases x with
      | normal =>
        obtain ⟨h', r, k1, k2, k3⟩ := toHd_ok (show toHd H (lt h) env' m' q' = true from h2) hA'
        refine ih h' a' w' k1 (At.mono k3 fun ρ2 e hp2 => ?_)
        subst e
        have := hlt h h' r ρ' h0 k1 k2 hp0 hp2
        omega
      | exit i =>
        obtain ⟨k0, k⟩ := andB_ok (show andB (Nat.beq i id) (toHd HX (fun _ _ => true) env' m' q') = true from h2)
        rw [beq_iff] at k0; subst k0
        obtain ⟨h', r, k1, _, k3⟩ := toHd_ok k hA'
        exact hQ h' a' w' k1 (At.mono k3 fun _ _ _ => trivial)
      | goto l => exact absurd (show false = true from h2) (by simp)
      | ret => exact hQr _ _ (retB_ok hr (x := .ret) (.inl rfl) hA' h2)
  obtain ⟨c, hJ, hrest⟩ := hA
  exact key (μ h c.ρ + 1) h a w h0 ⟨c, by omega, hrest⟩
end pieces

/-! ### a variable that counts the rounds -/

noncomputable def incB (v : Nat) (r : Ren) : Bool := (Option.rec (motive := fun _ => Bool) (false) (fun g => (G.rec (motive := fun _ => Bool) (fun a => eqE a (.bin .add .i64 (.x v) (.n 1))) (fun _ => false) (g))) (r.g v))
/-- nearer the end: a lesser number of 'mu', or the same and one more of the variable v -/
noncomputable def ltV (mu : Nat → Nat) (v : Nat) (h h' : Nat) (r : Ren) : Bool := orB (Nat.blt (mu h') (mu h)) (andB (Nat.beq (mu h') (mu h)) (incB v r))
def muV (mu : Nat → Nat) (v b : Nat) (h : Nat) (ρ : Nat → Int) : Nat := mu h * (b + 1) + ((b : Int) - ρ v).toNat

theorem ltV_ok {H : Hds} {mu : Nat → Nat} {v b : Nat} (hb : b < 1000000) (hv : ∀ h, H.ok h = true → (H.pn h).rng[v]? = some (0, (b : Int))) :
    ∀ h h' r ρ, H.ok h = true → H.ok h' = true → ltV mu v h h' r = true → PcR ρ (H.pn h).pc → PcR (sub r.base r.s ρ) (H.pn h').pc → muV mu v b h' (sub r.base r.s ρ) < muV mu v b h ρ := by
  intro h h' r ρ h1 h2 hl hp hp'
  have g1 := hp.rng v 0 b (hv h h1)
  have g2 := hp'.rng v 0 b (hv h' h2)
  unfold muV
  rcases orB_ok hl with hl | hl
  · rw [blt_iff] at hl
    have e1 : ((b : Int) - sub r.base r.s ρ v).toNat ≤ b := by omega
    have e2 : (mu h' + 1) * (b + 1) ≤ mu h * (b + 1) := Nat.mul_le_mul_right _ hl
    have e3 : (mu h' + 1) * (b + 1) = mu h' * (b + 1) + (b + 1) := by rw [Nat.add_mul, Nat.one_mul]
    omega
  · obtain ⟨k1, k2⟩ := andB_ok hl
    rw [beq_iff] at k1
    unfold incB at k2
    cases hg : r.g v with
    | none => rw [hg] at k2; exact absurd (show false = true from k2) (by simp)
    | some g =>
      rw [hg] at k2
      cases g with
      | ofB _ => exact absurd (show false = true from k2) (by simp)
      | ofE e =>
        have := eqE_ok (show eqE e (.bin .add .i64 (.x v) (.n 1)) = true from k2)
        subst this
        have e4 : sub r.base r.s ρ v = ρ v + 1 := by
          rw [Ren.g_sub, hg]
          show wrapZ .i64 (ρ v + 1) = ρ v + 1
          rw [wrapZ_eq]
          refine wrap_in _ _ ?_ ?_ <;> simp only [kMin, kMax, limN, IntKind.signed, cond_true] <;> omega
        rw [k1]
        omega

end Go.Sy

/-
  What is proved here: a code up to a place inside it, with joined ways in some of its statements.
  Conditions: none.
-/
namespace Go.Sy
open Go.RowKit (Below)

/-- a statement: one that begins with a region of 'hs' with joined ways -/
noncomputable def stepC (hs : List (Nat × List Nat)) (c : Code) (P : Program) (cf : FuncId → List V → M V) (it n : Nat) : Env → M XE := (Option.rec (motive := fun _ => Env → M XE) (evCode c P cf it n) (fun ks => evCo [] ks c P cf it n) (joinOf hs c))

theorem stepC_ok {P : Program} {ρ : Nat → Int} {n : Nat} {hs : List (Nat × List Nat)} (hM : P.follows .mixedOrders = true) {cf : FuncId → List V → M V} (hcf : CallsOK P ρ cf) (it : Nat) (code : Code) (hR : codeFlat code = true) ⦃c : Cx⦄ ⦃m m' : Mem⦄ ⦃w : World⦄ ⦃p q : Pc⦄ ⦃env : Env⦄ ⦃r : XE⦄ ⦃a : Act⦄ (hρ : c.ρ = ρ) (hm : MemR c m w) (hp : PcR c.ρ p) (he : EnvR c n env a)
    (h : (stepC hs code P cf it n env).gives c.ρ m p r m' q) (Q : Exit → Act → World → Prop) (hQ : ∀ a' w', PcR c.ρ q → After c m w m' n r.env a a' w' → Q (exitOf r.x) a' w') : code.wp P Q a w := by
  unfold stepC at h
  cases hj : joinOf hs code with
  | none => rw [hj] at h; exact evCode_ok hM hcf it code hR hρ hm hp he h Q hQ
  | some ks =>
    rw [hj] at h
    obtain ⟨h1, _⟩ := Bool.and_eq_true_iff.1 hR
    exact wpIn_wide.1 (evCo_ok hM hcf [] ks it code h1 hρ hm hp he h none (fun _ => rfl) Q fun a' w' hq hA => hQ a' w' hq hA.plain)

/-- up to the place: 'none': there -/
noncomputable def evPathC (hs : List (Nat × List Nat)) (P : Program) (cf : FuncId → List V → M V) (it n : Nat) : List Dir → Code → Env → M XO
  | [], _, env => M.pure ⟨none, env⟩
  | .l :: d, c, env => selB (isSeq c) ((evPathC hs P cf it n d (cL c) env).bnd fun r => onXO r fun x _ => (Option.rec (motive := fun _ => M XO) (M.pure r) (fun x => (X.rec (motive := fun _ => M XO) (M.fail "past the place") (fun _ => M.pure r) (M.pure r) (fun _ => M.pure r) (x))) (x))) (M.fail "no such place")
  | .r :: d, c, env => selB (isSeq c) ((stepC hs (cL c) P cf it n env).bnd fun r => onXE r fun x e => (X.rec (motive := fun _ => M XO) (evPathC hs P cf it n d (cR c) e) (fun _ => M.pure ⟨some x, e⟩) (M.pure ⟨some x, e⟩) (fun _ => M.pure ⟨some x, e⟩) (x))) (M.fail "no such place")
  | .b :: d, c, env => selB (isBlock c) ((evPathC hs P cf it n d (cB c) env).bnd fun r => onXO r fun x _ => (Option.rec (motive := fun _ => M XO) (M.pure r) (fun x => (X.rec (motive := fun _ => M XO) (M.fail "past the place") (fun i => selB (Nat.beq i (cId c)) (M.fail "past the place") (M.pure r)) (M.pure r) (fun _ => M.pure r) (x))) (x))) (M.fail "no such place")

theorem pathC_ok {hs : List (Nat × List Nat)} {P : Program} {ρ : Nat → Int} (hM : P.follows .mixedOrders = true) {cf : FuncId → List V → M V} (hcf : CallsOK P ρ cf) (it n : Nat) : ∀ (d : List Dir) (co : Code), codeFlat co = true →
    ∀ {c : Cx} {m m' : Mem} {w : World} {p q : Pc} {env : Env} {r : XO} {a : Act}, c.ρ = ρ → MemR c m w → PcR c.ρ p → EnvR c n env a → (evPathC hs P cf it n d co env).gives c.ρ m p r m' q →
    ∀ (Q : Exit → Act → World → Prop), (∀ a' w', PcR c.ρ q → After c m w m' n r.env a a' w' → match r.x with | none => placeWp P d co Q a' w' | some x => Q (exitOf x) a' w') → co.wp P Q a w
  | [], co, _, c, m, m', w, p, q, env, r, a, hρ, hm, hp, he, h, Q, hQ => by
    obtain ⟨rfl, rfl, rfl⟩ := M.gives_pure (show (M.pure (⟨none, env⟩ : XO)).gives c.ρ m p r m' q from h)
    exact hQ a w hp ⟨c, Step.refl hm, he, rfl⟩
  | .l :: d, co, hR, c, m, m', w, p, q, env, r, a, hρ, hm, hp, he, h, Q, hQ => by
    obtain ⟨h1, h2⟩ := M.gives_if (show (selB (isSeq co) ((evPathC hs P cf it n d (cL co) env).bnd fun r => onXO r fun x _ => (Option.rec (M.pure r) (fun x => X.rec (M.fail "past the place") (fun _ => M.pure r) (M.pure r) (fun _ => M.pure r) x) x : M XO)) (M.fail "no such place")).gives c.ρ m p r m' q from h)
    cases co <;> try exact (Bool.false_ne_true h1).elim
    rename_i x y
    obtain ⟨hR1, _⟩ := codeFlat_seq hR
    obtain ⟨r0, m1, p1, h3, h4⟩ := M.gives_bnd h2
    refine wp_seq (pathC_ok hM hcf it n d x hR1 hρ hm hp he h3 _ fun a1 w1 hp1 hA => ?_)
    obtain ⟨z, env1⟩ := r0
    cases z with
    | none =>
      obtain ⟨rfl, rfl, rfl⟩ := M.gives_pure (show (M.pure (⟨none, env1⟩ : XO)).gives c.ρ m1 p1 r m' q from h4)
      exact hQ a1 w1 hp1 hA
    | some z =>
      cases z with
      | normal => exact (M.gives_fail (s := "past the place") h4).elim
      | exit i =>
        obtain ⟨rfl, rfl, rfl⟩ := M.gives_pure (show (M.pure (⟨some (.exit i), env1⟩ : XO)).gives c.ρ m1 p1 r m' q from h4)
        exact hQ a1 w1 hp1 hA
      | ret =>
        obtain ⟨rfl, rfl, rfl⟩ := M.gives_pure (show (M.pure (⟨some .ret, env1⟩ : XO)).gives c.ρ m1 p1 r m' q from h4)
        exact hQ a1 w1 hp1 hA
      | goto l =>
        obtain ⟨rfl, rfl, rfl⟩ := M.gives_pure (show (M.pure (⟨some (.goto l), env1⟩ : XO)).gives c.ρ m1 p1 r m' q from h4)
        exact hQ a1 w1 hp1 hA
  | .r :: d, co, hR, c, m, m', w, p, q, env, r, a, hρ, hm, hp, he, h, Q, hQ => by
    obtain ⟨h1, h2⟩ := M.gives_if (show (selB (isSeq co) ((stepC hs (cL co) P cf it n env).bnd fun r => onXE r fun x e => (X.rec (evPathC hs P cf it n d (cR co) e) (fun _ => M.pure ⟨some x, e⟩) (M.pure ⟨some x, e⟩) (fun _ => M.pure ⟨some x, e⟩) x : M XO)) (M.fail "no such place")).gives c.ρ m p r m' q from h)
    cases co <;> try exact (Bool.false_ne_true h1).elim
    rename_i x y
    obtain ⟨hR1, hR2⟩ := codeFlat_seq hR
    obtain ⟨r0, m1, p1, h3, h4⟩ := M.gives_bnd h2
    refine wp_seq (stepC_ok hM hcf it x hR1 hρ hm hp he h3 _ fun a1 w1 hp1 hA => ?_)
    obtain ⟨z, env1⟩ := r0
    cases z with
    | normal =>
      obtain ⟨c1, s1, he1, hd⟩ := hA
      have hr := s1.le.ρ
      exact pathC_ok hM hcf it n d y hR2 (hr.trans hρ) s1.rel (by rw [hr]; exact hp1) he1 (by rw [hr]; exact h4) Q fun a2 w2 hq hA2 => hQ a2 w2 (by rw [← hr]; exact hq) (hA2.trans s1 hd)
    | exit i =>
      obtain ⟨rfl, rfl, rfl⟩ := M.gives_pure (show (M.pure (⟨some (.exit i), env1⟩ : XO)).gives c.ρ m1 p1 r m' q from h4)
      exact hQ a1 w1 hp1 hA
    | ret =>
      obtain ⟨rfl, rfl, rfl⟩ := M.gives_pure (show (M.pure (⟨some .ret, env1⟩ : XO)).gives c.ρ m1 p1 r m' q from h4)
      exact hQ a1 w1 hp1 hA
    | goto l =>
      obtain ⟨rfl, rfl, rfl⟩ := M.gives_pure (show (M.pure (⟨some (.goto l), env1⟩ : XO)).gives c.ρ m1 p1 r m' q from h4)
      exact hQ a1 w1 hp1 hA
  | .b :: d, co, hR, c, m, m', w, p, q, env, r, a, hρ, hm, hp, he, h, Q, hQ => by
    obtain ⟨h1, h2⟩ := M.gives_if (show (selB (isBlock co) ((evPathC hs P cf it n d (cB co) env).bnd fun r => onXO r fun x _ => (Option.rec (M.pure r) (fun x => X.rec (M.fail "past the place") (fun i => selB (Nat.beq i (cId co)) (M.fail "past the place") (M.pure r)) (M.pure r) (fun _ => M.pure r) x) x : M XO)) (M.fail "no such place")).gives c.ρ m p r m' q from h)
    cases co <;> try exact (Bool.false_ne_true h1).elim
    rename_i id x
    obtain ⟨r0, m1, p1, h3, h4⟩ := M.gives_bnd h2
    refine wp_block (pathC_ok hM hcf it n d x hR hρ hm hp he h3 _ fun a1 w1 hp1 hA => ?_)
    obtain ⟨z, env1⟩ := r0
    cases z with
    | none =>
      obtain ⟨rfl, rfl, rfl⟩ := M.gives_pure (show (M.pure (⟨none, env1⟩ : XO)).gives c.ρ m1 p1 r m' q from h4)
      exact hQ a1 w1 hp1 hA
    | some z =>
      cases z with
      | normal => exact (M.gives_fail (s := "past the place") h4).elim
      | exit i =>
        have h4 : (selB (Nat.beq i id) (M.fail "past the place") (M.pure (⟨some (.exit i), env1⟩ : XO))).gives c.ρ m1 p1 r m' q := h4
        cases hb : Nat.beq i id with
        | true => rw [hb] at h4; exact (M.gives_fail (s := "past the place") h4).elim
        | false =>
          rw [hb] at h4
          obtain ⟨rfl, rfl, rfl⟩ := M.gives_pure h4
          have hq := hQ a1 w1 hp1 hA
          rw [beq_false] at hb
          show Exit.inBlock id Q (.exit i) a1 w1
          simp only [Exit.inBlock, if_neg hb]; exact hq
      | ret =>
        obtain ⟨rfl, rfl, rfl⟩ := M.gives_pure (show (M.pure (⟨some .ret, env1⟩ : XO)).gives c.ρ m1 p1 r m' q from h4)
        exact hQ a1 w1 hp1 hA
      | goto l =>
        obtain ⟨rfl, rfl, rfl⟩ := M.gives_pure (show (M.pure (⟨some (.goto l), env1⟩ : XO)).gives c.ρ m1 p1 r m' q from h4)
        exact hQ a1 w1 hp1 hA

noncomputable def evHeadC (hs : List (Nat × List Nat)) (P : Program) (cf : FuncId → List V → M V) (it n : Nat) (d : List Dir) (co : Code) (env : Env) : M XE := (evPathC hs P cf it n d co env).bnd headX

section piece
variable {P : Program} {cf : FuncId → List V → M V} {W0 : World} {J : (Nat → Int) → Prop} {m : Mem} {n : Nat} {env : Env} {p : Pc} {a : Act} {w : World} {Q : Exit → Act → World → Prop}

/-- a code up to a place ('normal': there) -/
theorem headC_ok {hs : List (Nat × List Nat)} (hM : P.follows .mixedOrders = true) (hcf : ∀ ρ, CallsOK P ρ cf) {d : List Dir} {co : Code} (hR : codeFlat co = true) {it : Nat} (hA : At W0 J m n env p a w)
    (h : ∀ ρ, J ρ → PcR ρ p → ∃ r m' q, (evHeadC hs P cf it n d co env m p).out ρ = some ⟨r, m', q⟩ ∧ ∀ a' w', At W0 (fun ρ' => ρ' = ρ) m' n r.env q a' w' →
      match r.x with
      | .normal => placeWp P d co Q a' w'
      | x => Q (exitOf x) a' w') : co.wp P Q a w := by
  obtain ⟨c, hJ, hm, hp, he, hd, hb, hw⟩ := hA
  obtain ⟨r, m', q, ho, hq⟩ := h c.ρ hJ hp
  obtain ⟨r0, m1, p1, h1, h2⟩ := M.gives_bnd (show ((evPathC hs P cf it n d co env).bnd headX).gives c.ρ m p r m' q from ho)
  refine pathC_ok hM (hcf c.ρ) it n d co hR rfl hm hp he h1 Q fun a' w' hpq hAf => ?_
  obtain ⟨c', s, he', hd'⟩ := hAf
  obtain ⟨k1, k2⟩ := below_step hb hw s
  obtain ⟨z, env1⟩ := r0
  cases z with
  | none =>
    obtain ⟨rfl, rfl, rfl⟩ := M.gives_pure (show (M.pure (⟨.normal, env1⟩ : XE)).gives c.ρ m1 p1 r m' q from h2)
    exact hq a' w' ⟨c', s.le.ρ, s.rel, by rw [s.le.ρ]; exact hpq, he', hd'.trans hd, k1, k2⟩
  | some z =>
    cases z with
    | normal => exact (M.gives_fail (s := "past the place") h2).elim
    | exit i =>
      obtain ⟨rfl, rfl, rfl⟩ := M.gives_pure (show (M.pure (⟨.exit i, env1⟩ : XE)).gives c.ρ m1 p1 r m' q from h2)
      exact hq a' w' ⟨c', s.le.ρ, s.rel, by rw [s.le.ρ]; exact hpq, he', hd'.trans hd, k1, k2⟩
    | ret =>
      obtain ⟨rfl, rfl, rfl⟩ := M.gives_pure (show (M.pure (⟨.ret, env1⟩ : XE)).gives c.ρ m1 p1 r m' q from h2)
      exact hq a' w' ⟨c', s.le.ρ, s.rel, by rw [s.le.ρ]; exact hpq, he', hd'.trans hd, k1, k2⟩
    | goto l =>
      obtain ⟨rfl, rfl, rfl⟩ := M.gives_pure (show (M.pure (⟨.goto l, env1⟩ : XE)).gives c.ρ m1 p1 r m' q from h2)
      exact hq a' w' ⟨c', s.le.ρ, s.rel, by rw [s.le.ρ]; exact hpq, he', hd'.trans hd, k1, k2⟩
end piece

section pieces
variable {P : Program} {cf : FuncId → List V → M V} {W0 : World} {n : Nat} {a : Act} {w : World} {fn : Func} {t : Nat}

/-- up to a place -/
theorem headC_hds {hs : List (Nat × List Nat)} (hM : P.follows .mixedOrders = true) (hcf : ∀ ρ, CallsOK P ρ cf) {d : List Dir} {co : Code} (hR : codeFlat co = true) (hr : fn.results = #[.tmp t]) {it : Nat} {H : Hds} {m : Mem} {env : Env} {p : Pc} {J : (Nat → Int) → Prop}
    {Q : Exit → Act → World → Prop} {qs : List Pc} (hc : ∀ ρ, J ρ → PcR ρ p → ∃ q ∈ qs, PcR ρ q) (hg : ∀ q ∈ qs, goodT (leafH H t) (evHeadC hs P cf it n d co env m q) = true)
    (hQ : ∀ h a w, H.ok h = true → AtHd W0 H n h (fun _ => True) a w → placeWp P d co Q a w) (hQr : ∀ a w, bodyPost P fn (LawEnd W0) .ret a w → Q .ret a w)
    (hA : At W0 J m n env p a w) : co.wp P Q a w := by
  obtain ⟨ρ, q, hq, _, _, hA⟩ := hA.pc hc
  refine headC_ok (hs := hs) (it := it) (d := d) hM hcf hR hA fun ρ' hρ hp => ?_
  subst hρ
  obtain ⟨x, env', m', q', h1, h2⟩ := goodT_out ρ' (hg q hq)
  refine ⟨⟨x, env'⟩, m', q', h1, fun a' w' hA' => ?_⟩
  cases x with
  | normal =>
    obtain ⟨h', r, k1, _, k3⟩ := toHd_ok (show toHd H (fun _ _ => true) env' m' q' = true from h2) hA'
    exact hQ h' a' w' k1 (k3.mono fun _ _ _ => trivial)
  | exit i => exact absurd (show false = true from h2) (by simp)
  | goto l => exact absurd (show false = true from h2) (by simp)
  | ret => exact hQr _ _ (retB_ok hr (x := .ret) (.inl rfl) hA' h2)

end pieces

end Go.Sy

/-
  What is proved here: calls with arguments that are known to return true, wherever the arguments and the memory fit a pattern.
  Conditions: none.
-/
namespace Go.Sy
open Go.RowKit (Below)

/-- no block of the pattern may be written -/
noncomputable def noWr (pn : Pn) : Bool := allL (fun x => notB x.2.wrB) pn.blks

/-- the call returns true, where the arguments and the memory fit one of the states; 'nt': the function's number of slots -/
noncomputable def knPat (H : Hds) (nt : Nat) (l : List V) : M V := fun m p =>
  selB (andB (Nat.ble (lenL l) nt) (toHd H (fun h _ => noWr (H.pn h)) (setArgs l 0 env0) m p)) (.ret ⟨.bool (.lit true), m, p⟩) (.fail "arguments of a known call")

noncomputable def kwPat (f : FuncId) (H : Hds) (nt : Nat) (r : Kw) : Kw := fun i => selB (Nat.beq i f) (some fun _ => knPat H nt) (r i)

theorem noWr_ok {pn : Pn} (h : noWr pn = true) {c : Cx} : ∀ b, ¬ Wr c pn.mem b := by
  rintro b ⟨i, blk, h1, h2, _⟩
  have h3 := allL_ok h _ (layB_get (show (layB pn.blks).get i = some blk from h1))
  rw [show (i, blk).2 = blk from rfl, h2] at h3
  exact Bool.false_ne_true h3

theorem knPat_ok {P : Program} {f : FuncId} {fn : Func} {co : Code} (hf : P.funcs[f]? = some fn) (hb : fn.body = some co) (hcl : Callable P f) {H : Hds}
    (hrun : ∀ h W a, H.ok h = true → AtHd W H fn.ntmps h (fun _ => True) a W → co.wp P (bodyPost P fn (LawEnd W)) a W)
    {c : Cx} {m m' : Mem} {w : World} {p q : Pc} {v : V} {args : Array Value} (hm : MemR c m w) (hp : PcR c.ρ p) (hg : GlobR c) {l : List V} (hl : VRs c l args.toList)
    (hk : (knPat H fn.ntmps l).gives c.ρ m p v m' q) : CallOK P f args c m w m' v q := by
  have hk : (selB (andB (Nat.ble (lenL l) fn.ntmps) (toHd H (fun h _ => noWr (H.pn h)) (setArgs l 0 env0) m p)) (.ret ⟨.bool (.lit true), m, p⟩) (.fail "arguments of a known call") : T (Rs V)).out c.ρ = some ⟨v, m', q⟩ := hk
  obtain ⟨h1, h2⟩ := T.out_selB hk
  simp [T.out] at h2
  obtain ⟨rfl, rfl, rfl⟩ := h2
  obtain ⟨h3, h4⟩ := andB_ok h1
  unfold toHd at h4
  rw [forceN_eq] at h4
  obtain ⟨h5, h6⟩ := andB_ok h4
  obtain ⟨h7, h8⟩ := andB_ok h6
  obtain ⟨h9, h10⟩ := andB_ok h8
  have he := env_ok hg fn.ntmps hl
  have hs : slots fn.ntmps l = fn.ntmps := by unfold slots; rw [h3]; rfl
  rw [hs] at he
  obtain ⟨g1, g2, _⟩ := fitAll_ok h7 hp hm he
  have hcall : Calls P f args w (LawEnd w) := calls_of_wp hf hb (hrun _ w _ h5 ⟨_, trivial, g1, fitPc_ok (fitAll_row h7) hp h9, g2, rfl, Below.refl _ _, fun b hb' => absurd hb' (noWr_ok h10 b)⟩)
  refine ⟨hcl, hcall.mono fun e w' hR => ?_⟩
  obtain ⟨rfl, hbl⟩ := hR
  exact ⟨c, _, rfl, Step.of_below hm hbl, VR.lit, hp⟩

theorem kwPat_ok {P : Program} {ρ : Nat → Int} {f : FuncId} {fn : Func} {co : Code} (hf : P.funcs[f]? = some fn) (hb : fn.body = some co) (hcl : Callable P f) {H : Hds}
    (hrun : ∀ h W a, H.ok h = true → AtHd W H fn.ntmps h (fun _ => True) a W → co.wp P (bodyPost P fn (LawEnd W)) a W) {r : Kw} (hr : KwOK P ρ r) : KwOK P ρ (kwPat f H fn.ntmps r) := by
  intro i tr hs ev hev l c m m' w p q v args hc hm hp hg hl hk
  have hs : selB (Nat.beq i f) (some fun _ => knPat H fn.ntmps) (r i) = some tr := hs
  cases hi : Nat.beq i f with
  | true =>
    rw [hi] at hs
    have hs : (some fun _ => knPat H fn.ntmps) = some tr := hs
    simp at hs; subst hs
    rw [beq_iff] at hi; subst hi
    exact knPat_ok hf hb hcl hrun hm hp hg hl hk
  | false =>
    rw [hi] at hs
    exact hr i tr hs ev hev l c m m' w p q v args hc hm hp hg hl hk

end Go.Sy

/-
  What is proved here: calls with arguments that are known to return a number or a bool, wherever the arguments and the memory fit a pattern.
  Conditions: none.
-/
namespace Go.Sy
open Go.RowKit (Below)

noncomputable def mem00 : Mem := ⟨.nil, 0, .nil, 0⟩
/-- the term is that number -/
noncomputable def isNumQ (q : Pc) (e : E) (z : Int) : Bool := (T.rec (motive := fun _ => Bool) (fun r => eqZ r.v z) (fun _ _ _ _ _ => false) (fun _ => false) (litR e mem00 q))
/-- 'u' is the literal 'v' -/
noncomputable def isVal (q : Pc) (v : V) : V → Bool := (V.rec (motive_1 := fun _ => V → Bool) (motive_2 := fun _ => Unit) (fun b => fun u => onBool u (fun c => (B.rec (motive := fun _ => Bool) (fun x => (Option.rec (motive := fun _ => Bool) (false) (fun y => eqB x y) (decE q c))) (fun _ _ => false) (fun _ _ => false) (fun _ _ => false) (b))) false) (fun k e => fun u => onN e (fun z => onInt u (fun k' e' => andB (Nat.beq (kindNo k) (kindNo k')) (isNumQ q e' z)) false) false) (fun _ => fun _ => false) (fun _ => false) (fun _ _ => fun _ => false) (fun _ => false) (fun _ _ _ _ => fun _ => false) (fun _ => false) (fun _ => fun _ => false) (fun _ _ _ _ _ => fun _ => false) (fun _ => false) (fun _ _ _ => fun _ => false) (fun _ => false) (fun _ _ => fun _ => false) (fun _ _ => fun _ => false) (fun _ => false) (fun _ _ _ => fun _ => false) (fun _ _ _ _ => fun _ => false) (fun _ _ => fun _ => false) (fun _ => fun _ => false) Unit.unit (fun _ _ _ _ => Unit.unit) (v))

theorem isVal_ok {c : Cx} {q : Pc} {v u : V} {x : Value} (h : isVal q v u = true) (hp : PcR c.ρ q) (hx : VR c u x) (c' : Cx) : VR c' v x := by
  cases v <;> try exact absurd (show false = true from h) (by simp)
  case int k e =>
    have h : (onN e (fun z => onInt u (fun k' e' => andB (Nat.beq (kindNo k) (kindNo k')) (isNumQ q e' z)) false) false) = true := h
    rcases onN_cases e (fun z => onInt u (fun k' e' => andB (Nat.beq (kindNo k) (kindNo k')) (isNumQ q e' z)) false) false with ⟨z, rfl, he⟩ | he <;> rw [he] at h
    · rcases onInt_cases u (fun k' e' => andB (Nat.beq (kindNo k) (kindNo k')) (isNumQ q e' z)) false with ⟨k', e', rfl, he⟩ | he <;> rw [he] at h
      · obtain ⟨h1, h2⟩ := andB_ok h
        have hk := kindNo_inj h1
        subst hk
        have h3 : e'.den c.ρ = z := by
          unfold isNumQ at h2
          cases ht : litR e' mem00 q with
          | ret r =>
            rw [ht] at h2
            have h2 : eqZ r.v z = true := h2
            have hz := (eqZ_iff _ _).1 h2
            have := (litR_gives (ρ := c.ρ) (m := mem00) (q := r.p) (z := r.v) hp (by unfold R.gives; rw [ht]; rfl)).1
            rw [this, hz]
          | br _ _ _ => rw [ht] at h2; exact absurd (show false = true from h2) (by simp)
          | fail _ => rw [ht] at h2; exact absurd (show false = true from h2) (by simp)
        rw [VR.int] at hx ⊢
        rw [h3] at hx
        exact hx
      · exact absurd h (by simp)
    · exact absurd h (by simp)
  case bool b =>
    have h : (onBool u (fun c => (B.rec (fun x => (Option.rec false (fun y => eqB x y) (decE q c) : Bool)) (fun _ _ => false) (fun _ _ => false) (fun _ _ => false) b : Bool)) false) = true := h
    rcases onBool_cases u (fun c => (B.rec (fun x => (Option.rec false (fun y => eqB x y) (decE q c) : Bool)) (fun _ _ => false) (fun _ _ => false) (fun _ _ => false) b : Bool)) false with ⟨d, rfl, he⟩ | he <;> rw [he] at h
    · cases b with
      | lit y =>
        have h : (Option.rec false (fun z => eqB y z) (decE q d) : Bool) = true := h
        cases hd : decE q d with
        | none => rw [hd] at h; exact absurd (show false = true from h) (by simp)
        | some z =>
          rw [hd] at h
          have hz := eqB_iff' (show eqB y z = true from h)
          subst hz
          rw [VR.bool] at hx ⊢
          rw [hx, decE_ok hp hd]
          rfl
      | _ => exact absurd (show false = true from h) (by simp)
    · exact absurd h (by simp)

/-- the call returns that value, and leaves what was there -/
def ValEnd (v : V) (W : World) (e : Ending) (w' : World) : Prop := ∃ x, e = .returned x ∧ (∀ c : Cx, VR c v x) ∧ Below W.heap.size W w'

/-- all ways end with the value in the slot t -/
noncomputable def leafV' (t : Nat) (v : V) : Lfn := fun x env _ q => (X.rec (motive := fun _ => Bool) (isVal q v (env t)) (fun _ => false) (isVal q v (env t)) (fun _ => false) (x))

section
variable {P : Program} {fn : Func} {t n : Nat} {cf : FuncId → List V → M V} {a : Act} {w W0 : World}

theorem val_hds (hM : P.follows .mixedOrders = true) (hcf : ∀ ρ, CallsOK P ρ cf) {co : Code} (hR : codeFlat co = true) (hr : fn.results = #[.tmp t]) {it : Nat} {m : Mem} {env : Env} {p : Pc} {v : V}
    {qs : List Pc} (hc : ∀ ρ, PcR ρ p → ∃ q ∈ qs, PcR ρ q) (hg : ∀ q ∈ qs, goodT (leafV' t v) (evCode co P cf it n env m q) = true)
    (hA : At W0 (fun _ => True) m n env p a w) : co.wp P (bodyPost P fn (ValEnd v W0)) a w := by
  obtain ⟨ρ, q, hq, _, _, hA⟩ := hA.pc (qs := qs) (fun ρ _ hp => hc ρ hp)
  refine piece_ok (it := it) hM hcf hR hA fun ρ' hρ hp => ?_
  subst hρ
  obtain ⟨x, env', m', q', h1, h2⟩ := goodT_out ρ' (hg q hq)
  refine ⟨⟨x, env'⟩, m', q', h1, fun a' w' hA' => ?_⟩
  have key : isVal q' v (env' t) = true → a'.defers = [] ∧ ∃ z, (results fn a'.tmps).run P w' = .ok z w' ∧ ValEnd v W0 (.returned z) w' := by
    intro hv
    obtain ⟨c, rfl, hm, hp', he, hd, hbl, _⟩ := hA'
    exact ⟨hd, _, results_tmp hr a'.tmps P w', _, rfl, isVal_ok hv hp' (he.slot t), hbl⟩
  cases x with
  | normal => exact key h2
  | exit i => exact absurd (show false = true from h2) (by simp)
  | goto l => exact absurd (show false = true from h2) (by simp)
  | ret => exact key h2
end

/-- the call returns 'val h', where the arguments and the memory fit the state h -/
noncomputable def knVal (H : Hds) (val : Nat → V) (nt : Nat) (l : List V) : M V := fun m p =>
  forceN (H.pick (setArgs l 0 env0) m) fun h => selB (andB (Nat.ble (lenL l) nt) (andB (H.ok h) (andB (fitAll (H.pn h) (findR (H.pn h) (setArgs l 0 env0) m) p.rng (setArgs l 0 env0) m) (andB (fitPc (H.pn h) (findR (H.pn h) (setArgs l 0 env0) m) p) (noWr (H.pn h))))))
    (.ret ⟨val h, m, p⟩) (.fail "arguments of a known call")

/-- where they don't fit, the call is run -/
noncomputable def kwVal (f : FuncId) (H : Hds) (val : Nat → V) (nt : Nat) (r : Kw) : Kw := fun i => selB (Nat.beq i f) (some fun ev l m p => (T.rec (motive := fun _ => T (Rs V)) (fun a => .ret a) (fun _ _ _ _ _ => ev l m p) (fun _ => ev l m p) (knVal H val nt l m p))) (r i)

theorem knVal_ok {P : Program} {f : FuncId} {fn : Func} {co : Code} (hf : P.funcs[f]? = some fn) (hb : fn.body = some co) (hcl : Callable P f) {H : Hds} {val : Nat → V}
    (hrun : ∀ h W a, H.ok h = true → AtHd W H fn.ntmps h (fun _ => True) a W → co.wp P (bodyPost P fn (ValEnd (val h) W)) a W)
    {c : Cx} {m m' : Mem} {w : World} {p q : Pc} {v : V} {args : Array Value} (hm : MemR c m w) (hp : PcR c.ρ p) (hg : GlobR c) {l : List V} (hl : VRs c l args.toList)
    (hk : (knVal H val fn.ntmps l).gives c.ρ m p v m' q) : CallOK P f args c m w m' v q := by
  have hk : (forceN (H.pick (setArgs l 0 env0) m) fun h => selB (andB (Nat.ble (lenL l) fn.ntmps) (andB (H.ok h) (andB (fitAll (H.pn h) (findR (H.pn h) (setArgs l 0 env0) m) p.rng (setArgs l 0 env0) m) (andB (fitPc (H.pn h) (findR (H.pn h) (setArgs l 0 env0) m) p) (noWr (H.pn h))))))
    (.ret ⟨val h, m, p⟩) (.fail "arguments of a known call") : T (Rs V)).out c.ρ = some ⟨v, m', q⟩ := hk
  rw [forceN_eq] at hk
  generalize H.pick (setArgs l 0 env0) m = h at hk
  obtain ⟨h1, h2⟩ := T.out_selB hk
  simp [T.out] at h2
  obtain ⟨rfl, rfl, rfl⟩ := h2
  obtain ⟨h3, h4⟩ := andB_ok h1
  obtain ⟨h5, h6⟩ := andB_ok h4
  obtain ⟨h7, h8⟩ := andB_ok h6
  obtain ⟨h9, h10⟩ := andB_ok h8
  have he := env_ok hg fn.ntmps hl
  have hs : slots fn.ntmps l = fn.ntmps := by unfold slots; rw [h3]; rfl
  rw [hs] at he
  obtain ⟨g1, g2, _⟩ := fitAll_ok h7 hp hm he
  have hcall : Calls P f args w (ValEnd (val h) w) := calls_of_wp hf hb (hrun _ w _ h5 ⟨_, trivial, g1, fitPc_ok (fitAll_row h7) hp h9, g2, rfl, Below.refl _ _, fun b hb' => absurd hb' (noWr_ok h10 b)⟩)
  refine ⟨hcl, hcall.mono fun e w' hR => ?_⟩
  obtain ⟨x, rfl, hx, hbl⟩ := hR
  exact ⟨c, _, rfl, Step.of_below hm hbl, hx c, hp⟩

theorem kwVal_ok {P : Program} {ρ : Nat → Int} {f : FuncId} {fn : Func} {co : Code} (hf : P.funcs[f]? = some fn) (hb : fn.body = some co) (hcl : Callable P f) {H : Hds} {val : Nat → V}
    (hrun : ∀ h W a, H.ok h = true → AtHd W H fn.ntmps h (fun _ => True) a W → co.wp P (bodyPost P fn (ValEnd (val h) W)) a W) {r : Kw} (hr : KwOK P ρ r) : KwOK P ρ (kwVal f H val fn.ntmps r) := by
  intro i tr hs ev hev l c m m' w p q v args hc hm hp hg hl hk
  have hs : selB (Nat.beq i f) (some fun (ev : List V → M V) l m p => (T.rec (fun a => T.ret a) (fun _ _ _ _ _ => ev l m p) (fun _ => ev l m p) (knVal H val fn.ntmps l m p) : T (Rs V))) (r i) = some tr := hs
  cases hi : Nat.beq i f with
  | true =>
    rw [hi] at hs
    have hs : (some fun (ev : List V → M V) l m p => (T.rec (fun a => T.ret a) (fun _ _ _ _ _ => ev l m p) (fun _ => ev l m p) (knVal H val fn.ntmps l m p) : T (Rs V))) = some tr := hs
    injection hs with hs; subst hs
    rw [beq_iff] at hi; subst hi
    have hk : (T.rec (fun a => T.ret a) (fun _ _ _ _ _ => ev l m p) (fun _ => ev l m p) (knVal H val fn.ntmps l m p) : T (Rs V)).out c.ρ = some ⟨v, m', q⟩ := hk
    cases ht : knVal H val fn.ntmps l m p with
    | ret a =>
      rw [ht] at hk
      exact knVal_ok hf hb hcl hrun hm hp hg hl (show (knVal H val fn.ntmps l m p).out c.ρ = some ⟨v, m', q⟩ by rw [ht]; exact hk)
    | br _ _ _ => rw [ht] at hk; exact hev _ _ _ _ _ _ _ _ _ hc hm hp hg hl hk
    | fail _ => rw [ht] at hk; exact hev _ _ _ _ _ _ _ _ _ hc hm hp hg hl hk
  | false =>
    rw [hi] at hs
    exact hr i tr hs ev hev l c m m' w p q v args hc hm hp hg hl hk

end Go.Sy

