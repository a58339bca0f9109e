/-
  What is proved here: contracts of called functions out of runs of the evaluator, for walks by hand: arguments by a context of one's own.
  Conditions: none.
-/
import Derived.Test.YtdiameckiihppaaDoorSyM5
namespace Go.Sy
open Go.RowKit (Below)

theorem den_less {ρ : Nat → Int} {k : IntKind} {a b : E} (h1 : kMin k ≤ a.den ρ - b.den ρ) (h2 : a.den ρ - b.den ρ ≤ kMax k) : (E.bin .sub k a b).den ρ = a.den ρ - b.den ρ := by
  show wrapZ k (a.den ρ - b.den ρ) = _
  rw [wrapZ_eq]; exact wrap_in k _ h1 h2

/-- all leaves pass a check -/
noncomputable def allChk (chk : Rs V → Bool) (t : T (Rs V)) : Bool := (T.rec (motive := fun _ => Bool) (fun r => chk r) (fun _ _ _ ix iy => andB ix iy) (fun _ => false) (t))

theorem allChk_out (ρ : Nat → Int) {chk : Rs V → Bool} : ∀ {t : T (Rs V)}, allChk chk t = true → ∃ r, t.out ρ = some r ∧ chk r = true
  | .ret r, h => ⟨r, rfl, h⟩
  | .br c x y, h => by
    obtain ⟨h1, h2⟩ := andB_ok (show andB (allChk chk x) (allChk chk y) = true from h)
    obtain ⟨r, e1, g1⟩ := allChk_out ρ h1
    obtain ⟨r', e2, g2⟩ := allChk_out ρ h2
    simp only [T.out]
    cases c.den ρ with
    | true => exact ⟨r, by simpa using e1, g1⟩
    | false => exact ⟨r', by simpa using e2, g2⟩
  | .fail s, h => absurd (show false = true from h) (by simp)

/-- a call, out of a run -/
theorem con_run {P : Program} (hP : Plain P) {ρ : Nat → Int} {kw : Kw} (hkw : KwOK P ρ kw) {it d : Nat} {f : FuncId} {l : List V} {args : Array Value} {q0 : Pc} {chk : Rs V → Bool} {g : List (Nat × List V)} {bs : Nat → Nat} {w : World}
    (hq : PcR ρ q0) (hv : VRs (cx0 bs ρ) l args.toList) (hw : LaidAs bs w g) (h : allChk chk (evFn P kw it d f l (mem0 g) q0) = true) (hne : f ≠ yId := by decide) :
    Calls P f args w fun e w' => ∃ r c' z, chk r = true ∧ PcR ρ r.p ∧ e = .returned z ∧ VR c' r.v z ∧ c'.ρ = ρ ∧ Below w.heap.size w w' := by
  obtain ⟨⟨v, m, q⟩, he, hc⟩ := allChk_out ρ h
  refine (evFn_call hP hkw it d hne l (cx0 bs ρ) _ m w q0 q _ args rfl (mem0_ok hw) hq glob0 hv he).2.mono fun e w' hR => ?_
  obtain ⟨c', z, rfl, s, hz, hq'⟩ := hR
  exact ⟨⟨v, m, q⟩, c', z, hc, hq', rfl, hz, s.le.ρ, s.below mem0_wr⟩

def k64 (k : IntKind) : Bool := match k with | .i64 => true | _ => false
/-- a literal number of the kind int -/
noncomputable def litI (z : Int) (v : V) : Bool := onInt v (fun k e => andB (k64 k) (onN e (fun y => eqZ y z) false)) false
/-- a literal bool -/
noncomputable def litBo (b : Bool) (v : V) : Bool := onBool v (fun x => (B.rec (motive := fun _ => Bool) (fun y => Bool.rec (notB b) b y) (fun _ _ => false) (fun _ _ => false) (fun _ _ => false) (x))) false

/-- a call comes to an end -/
theorem calls_out {P : Program} {f : FuncId} {args : Array Value} {w : World} {R : Ending → World → Prop} (h : Calls P f args w R) : ∃ e w', R e w' := by
  obtain ⟨e, w', _, hr, _⟩ := h []
  exact ⟨e, w', hr⟩

/-- formulas over conditions -/
inductive BF where
  | at (b : B)
  | and (a b : BF)
  | or (a b : BF)
  | no (a : BF)

noncomputable def BF.den (ρ : Nat → Int) : BF → Bool
  | .at b => b.den ρ
  | .and a b => a.den ρ && b.den ρ
  | .or a b => a.den ρ || b.den ρ
  | .no a => !a.den ρ

noncomputable def and3 (a b : Option Bool) : Option Bool := Option.rec (Option.rec none (fun y => Bool.rec (some false) none y) b) (fun x => Bool.rec (some false) b x) a
noncomputable def or3 (a b : Option Bool) : Option Bool := Option.rec (Option.rec none (fun y => Bool.rec none (some true) y) b) (fun x => Bool.rec b (some true) x) a
noncomputable def no3 (a : Option Bool) : Option Bool := Option.rec none (fun x => some (notB x)) a

/-- what a path says of a formula -/
noncomputable def BF.ev (p : Pc) : BF → Option Bool :=
  BF.rec (motive := fun _ => Option Bool) (fun b => decE p b) (fun _ _ x y => and3 x y) (fun _ _ x y => or3 x y) (fun _ x => no3 x)

theorem BF.ev_ok {ρ : Nat → Int} {p : Pc} (hp : PcR ρ p) : ∀ {f : BF} {v : Bool}, f.ev p = some v → f.den ρ = v
  | .at b, v, h => decE_ok hp h
  | .and a b, v, h => by
    have h : and3 (a.ev p) (b.ev p) = some v := h
    have iha := fun v => BF.ev_ok hp (f := a) (v := v)
    have ihb := fun v => BF.ev_ok hp (f := b) (v := v)
    show (a.den ρ && b.den ρ) = v
    cases ha : a.ev p with
    | none =>
      cases hb : b.ev p with
      | none => rw [ha, hb] at h; cases h
      | some y =>
        rw [ha, hb] at h
        cases y with
        | true => cases h
        | false => simp only [and3, Option.some.injEq] at h; rw [ihb _ hb, ← h, Bool.and_false]
    | some x =>
      rw [ha] at h
      rw [iha _ ha]
      cases x with
      | false => simp only [and3, Option.some.injEq] at h; rw [← h, Bool.false_and]
      | true => rw [Bool.true_and]; exact ihb _ h
  | .or a b, v, h => by
    have h : or3 (a.ev p) (b.ev p) = some v := h
    have iha := fun v => BF.ev_ok hp (f := a) (v := v)
    have ihb := fun v => BF.ev_ok hp (f := b) (v := v)
    show (a.den ρ || b.den ρ) = v
    cases ha : a.ev p with
    | none =>
      cases hb : b.ev p with
      | none => rw [ha, hb] at h; cases h
      | some y =>
        rw [ha, hb] at h
        cases y with
        | false => cases h
        | true => simp only [or3, Option.some.injEq] at h; rw [ihb _ hb, ← h, Bool.or_true]
    | some x =>
      rw [ha] at h
      rw [iha _ ha]
      cases x with
      | true => simp only [or3, Option.some.injEq] at h; rw [← h, Bool.true_or]
      | false => rw [Bool.false_or]; exact ihb _ h
  | .no a, v, h => by
    have h : no3 (a.ev p) = some v := h
    have iha := fun v => BF.ev_ok hp (f := a) (v := v)
    show (!a.den ρ) = v
    cases ha : a.ev p with
    | none => rw [ha] at h; cases h
    | some x => rw [ha] at h; rw [iha _ ha]; cases x <;> simpa [no3, notB] using h

/-- a path decides a formula so -/
noncomputable def BF.is (f : BF) (v : Bool) (p : Pc) : Bool := Option.rec false (fun x => Bool.rec (notB v) v x) (f.ev p)
theorem BF.is_ok {ρ : Nat → Int} {p : Pc} (hp : PcR ρ p) {f : BF} {v : Bool} (h : f.is v p = true) : f.den ρ = v := by
  unfold BF.is at h
  cases he : f.ev p with
  | none => rw [he] at h; cases h
  | some x =>
    rw [he] at h
    rw [BF.ev_ok hp he]
    cases x <;> cases v <;> first | rfl | exact absurd h (by simp [notB])

theorem litI_ok {c : Cx} {z : Int} {v : V} {x : Value} (h : litI z v = true) (hv : VR c v x) : x = .int .i64 z := by
  unfold litI at h
  rcases onInt_cases v (fun k e => andB (k64 k) (onN e (fun y => eqZ y z) false)) false with ⟨k, e, rfl, he⟩ | he <;> rw [he] at h
  · obtain ⟨h1, h⟩ := andB_ok h
    obtain rfl : k = .i64 := by cases k <;> first | rfl | cases h1
    cases e with
    | n y =>
      have h : eqZ y z = true := h
      rw [VR.int] at hv
      rw [hv.1]; show Value.int _ y = _; rw [(eqZ_iff y z).1 h]
    | _ => exact absurd (show false = true from h) (by simp)
  · simp at h

theorem litBo_ok {c : Cx} {b : Bool} {v : V} {x : Value} (h : litBo b v = true) (hv : VR c v x) : x = .bool b := by
  unfold litBo at h
  rcases onBool_cases v (fun x => (B.rec (fun y => (Bool.rec (notB b) b y : Bool)) (fun _ _ => false) (fun _ _ => false) (fun _ _ => false) x : Bool)) false with ⟨y, rfl, he⟩ | he
  · have h : (B.rec (fun y => (Bool.rec (notB b) b y : Bool)) (fun _ _ => false) (fun _ _ => false) (fun _ _ => false) y : Bool) = true := he ▸ h
    cases y with
    | lit u =>
      rw [VR.bool] at hv
      rw [hv]
      show Value.bool u = _
      cases u <;> cases b <;> first | rfl | exact absurd h (by simp [notB])
    | _ => exact absurd (show false = true from h) (by simp)
  · have h : false = true := he ▸ h
    simp at h

/-- a bool that the path decides -/
noncomputable def litP (b : Bool) (r : Rs V) : Bool := onBool r.v (fun x => (BF.at x).is b r.p) false
theorem litP_ok {c : Cx} {b : Bool} {r : Rs V} {x : Value} (h : litP b r = true) (hp : PcR c.ρ r.p) (hv : VR c r.v x) : x = .bool b := by
  unfold litP at h
  rcases onBool_cases r.v (fun x => (BF.at x).is b r.p) false with ⟨y, e, he⟩ | he <;> rw [he] at h
  · rw [e, VR.bool] at hv
    rw [hv]
    exact congrArg Value.bool (BF.is_ok (f := .at y) hp h)
  · cases h

/-- a bool that a formula tells -/
noncomputable def forQ (f : BF) (r : Rs V) : Bool :=
  onBool r.v (fun x => andB (orB ((BF.at x).is false r.p) (f.is true (r.p.add x true))) (orB ((BF.at x).is true r.p) (f.is false (r.p.add x false)))) false
theorem forQ_ok {c : Cx} {f : BF} {r : Rs V} {x : Value} (h : forQ f r = true) (hp : PcR c.ρ r.p) (hv : VR c r.v x) : x = .bool (f.den c.ρ) := by
  unfold forQ at h
  rcases onBool_cases r.v (fun x => andB (orB ((BF.at x).is false r.p) (f.is true (r.p.add x true))) (orB ((BF.at x).is true r.p) (f.is false (r.p.add x false)))) false with ⟨y, e, he⟩ | he <;> rw [he] at h
  · rw [e, VR.bool] at hv
    rw [hv]
    obtain ⟨h1, h2⟩ := andB_ok h
    congr 1
    cases hy : y.den c.ρ with
    | true =>
      rcases orB_ok h1 with h1 | h1
      · have := BF.is_ok (f := .at y) hp h1
        rw [show (BF.at y).den c.ρ = y.den c.ρ from rfl, hy] at this
        cases this
      · exact (BF.is_ok (Pc.add_ok hp hy) h1).symm
    | false =>
      rcases orB_ok h2 with h2 | h2
      · have := BF.is_ok (f := .at y) hp h2
        rw [show (BF.at y).den c.ρ = y.den c.ρ from rfl, hy] at this
        cases this
      · exact (BF.is_ok (Pc.add_ok hp hy) h2).symm
  · cases h

/-- calls with these arguments return that value -/
noncomputable def knArgs (l0 : List V) (v : V) (l : List V) : M V := fun m p => selB (eqVV (.agg l) (.agg l0)) (.ret ⟨v, m, p⟩) (.fail "arguments of a call that is known")
noncomputable def kwArgs (f : FuncId) (l0 : List V) (v : V) (r : Kw) : Kw := fun i => selB (Nat.beq i f) (some fun _ => knArgs l0 v) (r i)

theorem kwArgs_ok {P : Program} {ρ : Nat → Int} {f : FuncId} {l0 : List V} {v0 : V} {r : Kw} (hf : Callable P f) (hr : KwOK P ρ r)
    (h : ∀ (c : Cx) (args : Array Value) (w : World), c.ρ = ρ → VRs c l0 args.toList → Calls P f args w fun e w' => ∃ x, e = .returned x ∧ (∀ c' : Cx, c'.ρ = ρ → VR c' v0 x) ∧ Below w.heap.size w w') : KwOK P ρ (kwArgs f l0 v0 r) := by
  intro i tr hs ev hev l c m m' w p q v args hc hm hp hg hl hk
  have hs : selB (Nat.beq i f) (some fun _ => knArgs l0 v0) (r i) = some tr := hs
  cases hi : Nat.beq i f with
  | true =>
    rw [hi] at hs
    have hs : (some fun _ => knArgs l0 v0) = some tr := hs
    simp at hs; subst hs
    rw [beq_iff] at hi; subst hi
    have hk : (selB (eqVV (.agg l) (.agg l0)) (.ret ⟨v0, m, p⟩) (.fail "arguments of a call that is known") : T (Rs V)).out c.ρ = some ⟨v, m', q⟩ := hk
    obtain ⟨h1, h2⟩ := T.out_selB hk
    simp [T.out] at h2
    obtain ⟨rfl, rfl, rfl⟩ := h2
    have hl0 := eqVV_ok _ _ h1
    injection hl0 with hl0
    subst hl0
    refine ⟨hf, (h c args w hc hl).mono fun e w' hR => ?_⟩
    obtain ⟨x, rfl, hx, hbl⟩ := hR
    exact ⟨c, _, rfl, Step.of_below hm hbl, hx c hc, hp⟩
  | false =>
    rw [hi] at hs
    exact hr i tr hs ev hev l c m m' w p q v args hc hm hp hg hl hk

/-- a call, out of a run, in a context of one's own -/
theorem con_runC {P : Program} (hP : Plain P) {c : Cx} {m : Mem} {kw : Kw} (hkw : KwOK P c.ρ kw) {it d : Nat} {f : FuncId} {l : List V} {args : Array Value} {q0 : Pc} {chk : Rs V → Bool} {w : World}
    (hm : MemR c m w) (hg : GlobR c) (hwr : ∀ b, ¬ Wr c m b) (hq : PcR c.ρ q0) (hv : VRs c l args.toList) (h : allChk chk (evFn P kw it d f l m q0) = true) (hne : f ≠ yId := by decide) :
    Calls P f args w fun e w' => ∃ r c' z, chk r = true ∧ PcR c.ρ r.p ∧ e = .returned z ∧ VR c' r.v z ∧ c'.ρ = c.ρ ∧ Below w.heap.size w w' := by
  obtain ⟨⟨v, m', q⟩, he, hc⟩ := allChk_out c.ρ h
  refine (evFn_call hP hkw it d hne l c _ m' w q0 q _ args rfl hm hq hg hv he).2.mono fun e w' hR => ?_
  obtain ⟨c', z, rfl, s, hz, hq'⟩ := hR
  exact ⟨⟨v, m', q⟩, c', z, hc, hq', rfl, hz, s.le.ρ, s.below hwr⟩
end Go.Sy
