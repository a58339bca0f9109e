/-
  What is proved here: from a run of the evaluator to the model's call: it returns true, and what was there before is as it was.
  Conditions: none.
-/
import Derived.Test.YtcipfcbaclfnhaaSyRun4
import Derived.Below
namespace Go.Sy
open Go.RowKit (Below)

/-- every leaf is the value true -/
noncomputable def allTrue (t : T (Rs V)) : Bool := (T.rec (motive := fun _ => Bool) (fun r => onBool r.v (fun b => (B.rec (motive := fun _ => Bool) (fun v => v) (fun _ _ => false) (fun _ _ => false) (fun _ _ => false) (b))) false) (fun _ _ _ ix iy => andB ix iy) (fun _ => false) (t))

theorem allTrue_out (ρ : Nat → Int) : ∀ {t : T (Rs V)}, allTrue t = true → ∃ m q, t.out ρ = some ⟨.bool (.lit true), m, q⟩
  | .ret ⟨v, m, q⟩, h => by
    have h : onBool v (fun b => (B.rec (fun v => v) (fun _ _ => false) (fun _ _ => false) (fun _ _ => false) b : Bool)) false = true := h
    rcases onBool_cases v (fun b => (B.rec (fun v => v) (fun _ _ => false) (fun _ _ => false) (fun _ _ => false) b : Bool)) false with ⟨b, rfl, he⟩ | he <;> rw [he] at h
    · cases b with
      | lit u =>
        have h : u = true := h
        subst h; exact ⟨m, q, rfl⟩
      | _ => exact absurd (show false = true from h) (by simp)
    · simp at h
  | .br c x y, h => by
    obtain ⟨h1, h2⟩ := andB_ok (show andB (allTrue x) (allTrue y) = true from h)
    obtain ⟨m, q, e1⟩ := allTrue_out ρ h1
    obtain ⟨m', q', e2⟩ := allTrue_out ρ h2
    simp only [T.out]
    cases c.den ρ with
    | true => exact ⟨m, q, by simpa using e1⟩
    | false => exact ⟨m', q', by simpa using e2⟩
  | .fail s, h => absurd (show false = true from h) (by simp)

/-- the memory at the start: the variables that are laid -/
noncomputable def layG (l : List (Nat × List V)) : Tr Blk := (List.rec (motive := fun _ => Tr Blk) (.nil) (fun g _ ih => ih.set g.1 (.cells g.2 false false none)) (l))

noncomputable def mem0 (g : List (Nat × List V)) : Mem := ⟨layG g, 4096, .nil, 0⟩

def pc0 : Pc := ⟨[], []⟩

/-- the abstract names at the start -/
def cx0 (ρ : Nat → Int) : Cx := ⟨fun i => (i, 0), fun _ => 0, ρ, 4096, 0⟩

theorem layG_get {i : Nat} {b : Blk} : ∀ {g : List (Nat × List V)}, (layG g).get i = some b → ∃ l, (i, l) ∈ g ∧ b = .cells l false false none
  | [], h => by simp [layG, Tr.get] at h
  | x :: g, h => by
    have h : ((layG g).set x.1 (.cells x.2 false false none)).get i = some b := h
    rw [Tr.get_set] at h
    split at h
    · rename_i e
      simp at h
      exact ⟨x.2, by rw [e]; exact .head _, h.symm⟩
    · obtain ⟨l, h1, h2⟩ := layG_get h
      exact ⟨l, .tail _ h1, h2⟩

theorem mem0_ok {ρ : Nat → Int} {g : List (Nat × List V)} {w : World} (h : ∀ x ∈ g, x.1 < 4096 ∧ BlkR (cx0 ρ) w (x.1, 0) (.cells x.2 false false none)) : MemR (cx0 ρ) (mem0 g) w := by
  refine ⟨rfl, rfl, ?_, ?_, ?_⟩
  · intro i b hb
    obtain ⟨l, h1, rfl⟩ := layG_get (show (layG g).get i = some b from hb)
    exact h _ h1
  · intro i j b b' hb hb' hij hap _ _
    obtain ⟨l, h1, rfl⟩ := layG_get (show (layG g).get i = some b from hb)
    obtain ⟨l', h2, rfl⟩ := layG_get (show (layG g).get j = some b' from hb')
    exact absurd hap (by simp [Blk.apt, Blk.wrB, Blk.plB])
  · intro t n h
    simp [mem0, Tr.get] at h

theorem pc0_ok {ρ : Nat → Int} : PcR ρ pc0 := ⟨fun c hc => by simp [pc0] at hc, fun i lo hi h => by simp [pc0] at h⟩

theorem glob0 {ρ : Nat → Int} : GlobR (cx0 ρ) := ⟨Nat.le_refl _, fun _ _ => rfl⟩

theorem Step.below {c c' : Cx} {m m' : Mem} {w w' : World} (s : Step c m w c' m' w') (h : ∀ b, ¬ Wr c m b) : Below w.heap.size w w' :=
  ⟨s.os, s.tape, s.output, s.size, fun k hk => s.frame k hk (h k)⟩

theorem mem0_wr {ρ : Nat → Int} {g : List (Nat × List V)} : ∀ b, ¬ Wr (cx0 ρ) (mem0 g) b := by
  rintro b ⟨i, blk, h1, h2, _⟩
  obtain ⟨l, _, rfl⟩ := layG_get (show (layG g).get i = some blk from h1)
  simp [Blk.wrB] at h2

/-- a closed call that returns true -/
theorem closed_ok {P : Program} (hP : Plain P) {kw : Kw} (hkw : KwOK P (fun _ => 0) kw) {it d : Nat} {f : FuncId} {g : List (Nat × List V)} (h : allTrue (evFn P kw it d f [] (mem0 g) pc0) = true) (w : World)
    (hw : ∀ x ∈ g, x.1 < 4096 ∧ BlkR (cx0 fun _ => 0) w (x.1, 0) (.cells x.2 false false none)) :
    Calls P f #[] w fun e w' => e = .returned (.bool true) ∧ Below w.heap.size w w' := by
  obtain ⟨m, q, he⟩ := allTrue_out (fun _ => 0) h
  refine (evFn_ok hP hkw it d f [] (cx0 fun _ => 0) _ m w pc0 q _ #[] rfl (mem0_ok hw) pc0_ok glob0 VRs.nil he).2.mono fun e w' hR => ?_
  obtain ⟨c', z, rfl, s, hz, _⟩ := hR
  rw [VR.bool] at hz
  subst hz
  exact ⟨rfl, s.below mem0_wr⟩

/-! ### a closed call that is known -/

noncomputable def eqLV (a b : List V) : Bool := eqVV (.agg a) (.agg b)

/-- the variable is laid so -/
noncomputable def laidAt (m : Mem) (g : List (Nat × List V)) : Bool := allL (fun x => andB (Nat.blt x.1 4096) (onCells (m.tr.get x.1) (fun l _ _ _ => eqLV l x.2) false)) g

/-- the call returns true, where the variables are laid so -/
noncomputable def knTrue (g : List (Nat × List V)) (l : List V) : M V := (List.rec (motive := fun _ => M V) ((fun m p => selB (laidAt m g) (.ret ⟨.bool (.lit true), m, p⟩) (.fail "a variable"))) (fun _ _ _ => M.fail "arguments") (l))

noncomputable def kwTrue (f : FuncId) (g : List (Nat × List V)) (r : Kw) : Kw := fun i => selB (Nat.beq i f) (some fun _ => knTrue g) (r i)

theorem Step.of_below {c : Cx} {m : Mem} {w w' : World} (hm : MemR c m w) (hb : Below w.heap.size w w') : Step c m w c m w' :=
  ⟨⟨hm.nb, hm.nt, fun i b h => ⟨(hm.blk i b h).1, (hm.blk i b h).2.world' (fun hl => hb.block _ ((hm.blk i b h).2.lt hl))⟩, hm.inj, hm.tok⟩, Cx.le.refl c, hb.os, hb.tape, hb.output, hb.size, fun b hb' _ => hb.block b hb', fun _ h => .inl h⟩

/-- values without variables, and without places: they mean the same everywhere -/
noncomputable def fixed (l : List V) : Bool := (List.rec (motive := fun _ => Bool) (true) (fun v _ ih => (Bool.rec (motive := fun _ => Bool) (false) (ih) (onInt v (fun _ e => onN e (fun _ => true) false) false))) (l))

theorem fixed_ok {c c' : Cx} : ∀ {l : List V} {j : Nat} {v : V} {x : Value}, fixed l = true → l[j]? = some v → VR c v x → VR c' v x
  | [], j, v, x, _, h, _ => by simp at h
  | u :: l, j, v, x, hf, h, hv => by
    have hf : (Bool.rec false (fixed l) (onInt u (fun _ e => onN e (fun _ => true) false) false) : Bool) = true := hf
    cases hu : onInt u (fun _ e => onN e (fun _ => true) false) false with
    | false => rw [hu] at hf; exact absurd hf (by simp)
    | true =>
      rw [hu] at hf
      cases j with
      | succ j => exact fixed_ok hf (by simpa using h) hv
      | zero =>
        simp at h; subst h
        rcases onInt_cases u (fun _ e => onN e (fun _ => true) false) false with ⟨k, e, rfl, he⟩ | he <;> rw [he] at hu
        · cases e with
          | n z => rw [VR.int] at hv ⊢; exact hv
          | _ => exact absurd (show false = true from hu) (by simp)
        · simp at hu

theorem knTrue_ok {P : Program} {f : FuncId} (hf : Callable P f) {g : List (Nat × List V)} (hfx : allL (fun x => fixed x.2) g = true)
    (h : ∀ w : World, (∀ x ∈ g, x.1 < 4096 ∧ BlkR (cx0 fun _ => 0) w (x.1, 0) (.cells x.2 false false none)) → Calls P f #[] w fun e w' => e = .returned (.bool true) ∧ Below w.heap.size w w')
    {c : Cx} {m m' : Mem} {w : World} {p q : Pc} {v : V} {args : Array Value} (hm : MemR c m w) (hp : PcR c.ρ p) (hg : GlobR c) {l : List V} (hl : VRs c l args.toList) (hk : (knTrue g l).gives c.ρ m p v m' q) : CallOK P f args c m w m' v q := by
  cases l with
  | cons x r => exact (M.gives_fail (s := "arguments") hk).elim
  | nil =>
  rw [VRs.nil_iff] at hl
  have ha : args = #[] := by simpa using hl
  subst ha
  have hk : (selB (laidAt m g) (.ret ⟨.bool (.lit true), m, p⟩) (.fail "a variable") : T (Rs V)).out c.ρ = some ⟨v, m', q⟩ := hk
  obtain ⟨h1, h2⟩ := T.out_selB hk
  simp [T.out] at h2
  obtain ⟨rfl, rfl, rfl⟩ := h2
  refine ⟨hf, (h w fun x hx => ?_).mono fun e w' hR => ?_⟩
  · obtain ⟨h3, h4⟩ := andB_ok (allL_ok h1 x hx)
    rw [blt_iff] at h3
    refine ⟨h3, ?_⟩
    cases hb : m.tr.get x.1 with
    | none => rw [hb] at h4; exact absurd (show false = true from h4) (by simp)
    | some b =>
      rw [hb] at h4
      cases b with
      | cells l wr pl g' =>
        have e := eqVV_ok _ _ (show eqVV (.agg l) (.agg x.2) = true from h4)
        simp at e; subst e
        obtain ⟨_, h5⟩ := hm.blk _ _ hb
        rw [hg.2 x.1 h3] at h5
        obtain ⟨cs, t, fr, g1, g2, g3, g4, g5⟩ := h5
        exact ⟨cs, t, fr, g1, fun j v hj => by
          obtain ⟨y, hy, hv⟩ := g2 j v hj
          exact ⟨y, hy, fixed_ok (allL_ok hfx x hx) hj hv⟩, fun h => by simp at h, fun h => by simp at h, trivial⟩
      | _ => exact absurd (show false = true from h4) (by simp)
  · obtain ⟨rfl, hb⟩ := hR
    exact ⟨c, _, rfl, Step.of_below hm hb, VR.lit, hp⟩

theorem kwTrue_ok {P : Program} {ρ : Nat → Int} {f : FuncId} (hf : Callable P f) {g : List (Nat × List V)} {r : Kw} (hr : KwOK P ρ r) (hfx : allL (fun x => fixed x.2) g = true)
    (h : ∀ w : World, (∀ x ∈ g, x.1 < 4096 ∧ BlkR (cx0 fun _ => 0) w (x.1, 0) (.cells x.2 false false none)) → Calls P f #[] w fun e w' => e = .returned (.bool true) ∧ Below w.heap.size w w') : KwOK P ρ (kwTrue f g r) := by
  intro i tr hs ev hev l c m m' w p q v args hc hm hp hg hl hk
  have hs : selB (Nat.beq i f) (some fun _ => knTrue g) (r i) = some tr := hs
  cases hi : Nat.beq i f with
  | true =>
    rw [hi] at hs
    have hs : (some fun _ => knTrue g) = some tr := hs
    simp at hs; subst hs
    rw [beq_iff] at hi; subst hi
    exact knTrue_ok hf hfx h hm hp hg hl hk
  | false =>
    rw [hi] at hs
    exact hr i tr hs ev hev l c m m' w p q v args hc hm hp hg hl hk

theorem callable {P : Program} (hP : Plain P) {f : FuncId} (h : (match P.funcs[f]? with | some fn => fn.body.isSome | none => false) = true) : Callable P f := by
  cases hf : P.funcs[f]? with
  | none => rw [hf] at h; simp at h
  | some fn =>
    rw [hf] at h
    have := hP.fns f fn hf
    simp [goodFn] at this
    exact ⟨fn, hf, by cases hb : fn.body <;> simp_all, by simpa using this.1⟩

end Go.Sy
