/-
  What is defined and proved here: a part of the symbolic evaluator: SyTop, SyLaw, SyOpen, SyLaid.
  Conditions: none.
-/
import Derived.Test.YtdiameckiihppaaDoorSyM4
import Derived.Below
import Derived.ProofKit
import Derived.LaidMore
import Derived.OpenShut
import Derived.Stop.Joined
/-
  What is proved here: from a run of the evaluator to the model's call: it returns true, and what was there before is as it was.
  Conditions: none.
-/
namespace Go.Sy
open Go.RowKit (Below)

/-- every leaf is the value true -/
noncomputable def allTrue (t : T (Rs V)) : Bool := (T.rec (motive := fun _ => Bool) (fun r => onBool r.v (fun b => (B.rec (motive := fun _ => Bool) (fun v => v) (fun _ _ => false) (fun _ _ => false) (fun _ _ => false) (b))) false) (fun _ _ _ ix iy => andB ix iy) (fun _ => false) (t))

theorem allTrue_out (ρ : Nat → Int) : ∀ {t : T (Rs V)}, allTrue t = true → ∃ m q, t.out ρ = some ⟨.bool (.lit true), m, q⟩
  | .ret ⟨v, m, q⟩, h => by
    have h : onBool v (fun b => (B.rec (fun v => v) (fun _ _ => false) (fun _ _ => false) (fun _ _ => false) b : Bool)) false = true := h
    rcases onBool_cases v (fun b => (B.rec (fun v => v) (fun _ _ => false) (fun _ _ => false) (fun _ _ => false) b : Bool)) false with ⟨b, rfl, he⟩ | he <;> rw [he] at h
    · cases b with
      | lit u =>
        have h : u = true := h
        subst h; exact ⟨m, q, rfl⟩
      | _ => exact absurd (show false = true from h) (by simp)
    · simp at h
  | .br c x y, h => by
    obtain ⟨h1, h2⟩ := andB_ok (show andB (allTrue x) (allTrue y) = true from h)
    obtain ⟨m, q, e1⟩ := allTrue_out ρ h1
    obtain ⟨m', q', e2⟩ := allTrue_out ρ h2
    simp only [T.out]
    cases c.den ρ with
    | true => exact ⟨m, q, by simpa using e1⟩
    | false => exact ⟨m', q', by simpa using e2⟩
  | .fail s, h => absurd (show false = true from h) (by simp)

/-- keys and values of a map, one behind the other -/
noncomputable def pairsV (l : List V) : List (V × V) := (List.rec (motive := fun _ => Option V → List (V × V)) (fun _ => []) (fun v _ ih => fun o => (Option.rec (motive := fun _ => List (V × V)) (ih (some v)) (fun k => (k, v) :: ih none) (o))) (l)) none

noncomputable def unpairsV (l : List (V × V)) : List V := (List.rec (motive := fun _ => List V) ([]) (fun x _ ih => x.1 :: x.2 :: ih) (l))

theorem pairs_unpairs : ∀ (l : List (V × V)), pairsV (unpairsV l) = l
  | [] => rfl
  | x :: l => by
    have := pairs_unpairs l
    show (x.1, x.2) :: pairsV (unpairsV l) = x :: l
    rw [this]

/-- a laid block: a variable's cells; from the name 3072 on, a map's keys and values -/
noncomputable def lyB (x : Nat × List V) : Blk := selB (Nat.blt x.1 3072) (.cells x.2 false false none) (.pm (pairsV x.2) false)

theorem lyB_cases (x : Nat × List V) : (x.1 < 3072 ∧ lyB x = .cells x.2 false false none) ∨ (3072 ≤ x.1 ∧ lyB x = .pm (pairsV x.2) false) := by
  unfold lyB
  cases h : Nat.blt x.1 3072 with
  | true => exact .inl ⟨by simpa [blt_iff] using h, rfl⟩
  | false =>
    refine .inr ⟨?_, rfl⟩
    have : ¬ x.1 < 3072 := fun h' => by rw [← blt_iff] at h'; rw [h'] at h; simp at h
    omega

/-- the memory at the start: the variables that are laid -/
noncomputable def layG (l : List (Nat × List V)) : Tr Blk := (List.rec (motive := fun _ => Tr Blk) (.nil) (fun g _ ih => ih.set g.1 (lyB g)) (l))

noncomputable def mem0 (g : List (Nat × List V)) : Mem := ⟨layG g, 4096, .nil, 0⟩

def pc0 : Pc := ⟨[], []⟩

/-- the abstract names at the start; bs: the blocks of the laid maps -/
def cx0 (bs : Nat → Nat) (ρ : Nat → Int) : Cx := ⟨fun i => (if i < 3072 then i else bs (i - 3072), 0), fun _ => 0, ρ, 4096, 0, fun i => i < 4096, fun _ h => h⟩

/-- the world holds what is laid -/
def LaidAs (bs : Nat → Nat) (W : World) (g : List (Nat × List V)) : Prop := ∀ ρ, ∀ x ∈ g, x.1 < 4096 ∧ BlkR (cx0 bs ρ) W ((cx0 bs ρ).β x.1) (lyB x)

def LaidW (W : World) (g : List (Nat × List V)) : Prop := ∃ bs, LaidAs bs W g

theorem LaidW.nil {W : World} : LaidW W [] := ⟨fun _ => 0, fun _ _ hx => nomatch hx⟩

theorem layG_get {i : Nat} {b : Blk} : ∀ {g : List (Nat × List V)}, (layG g).get i = some b → ∃ l, (i, l) ∈ g ∧ b = lyB (i, l)
  | [], h => by simp [layG, Tr.get] at h
  | x :: g, h => by
    have h : ((layG g).set x.1 (lyB x)).get i = some b := h
    rw [Tr.get_set] at h
    split at h
    · rename_i e
      simp at h
      exact ⟨x.2, by rw [e]; exact .head _, by rw [e]; exact h.symm⟩
    · obtain ⟨l, h1, h2⟩ := layG_get h
      exact ⟨l, .tail _ h1, h2⟩

theorem lyB_wr (x : Nat × List V) : (lyB x).wrB = false ∧ (lyB x).plB = false := by
  rcases lyB_cases x with ⟨_, e⟩ | ⟨_, e⟩ <;> rw [e] <;> exact ⟨rfl, rfl⟩

theorem lyB_has {c : Cx} {W : World} {i : Nat} {x : Nat × List V} (h1 : c.has i) (h2 : BlkR c W (c.β i) (lyB x)) : c.blkB W i (lyB x) := by
  rcases lyB_cases x with ⟨_, e⟩ | ⟨_, e⟩ <;> rw [e] at h2 ⊢ <;> exact ⟨h1, h2⟩

theorem mem0_ok {bs : Nat → Nat} {ρ : Nat → Int} {g : List (Nat × List V)} {w : World} (h : LaidAs bs w g) : MemR (cx0 bs ρ) (mem0 g) w := by
  refine ⟨rfl, rfl, ?_, ?_, ?_⟩
  · intro i b hb
    obtain ⟨l, h1, rfl⟩ := layG_get (show (layG g).get i = some b from hb)
    obtain ⟨h2, h3⟩ := h ρ _ h1
    exact lyB_has h2 h3
  · intro i j b b' hb hb' hij hap _ _
    obtain ⟨l, h1, rfl⟩ := layG_get (show (layG g).get i = some b from hb)
    obtain ⟨l', h2, rfl⟩ := layG_get (show (layG g).get j = some b' from hb')
    unfold Blk.apt at hap
    rw [(lyB_wr _).1, (lyB_wr _).2, (lyB_wr _).1] at hap
    exact absurd hap (by simp)
  · intro t n h
    simp [mem0, Tr.get] at h

theorem pc0_ok {ρ : Nat → Int} : PcR ρ pc0 := ⟨fun c hc => by simp [pc0] at hc, fun i lo hi h => by simp [pc0] at h⟩

theorem glob0 {bs : Nat → Nat} {ρ : Nat → Int} : GlobR (cx0 bs ρ) := ⟨Nat.le_refl _, fun i h => ⟨show i < 4096 by omega, by show (if i < 3072 then i else bs (i - 3072), 0) = (i, 0); rw [if_pos h]⟩⟩

theorem Step.below {c c' : Cx} {m m' : Mem} {w w' : World} (s : Step c m w c' m' w') (h : ∀ b, ¬ Wr c m b) : Below w.heap.size w w' :=
  ⟨s.os, s.tape, s.output, s.size, fun k hk => s.frame k hk (h k)⟩

theorem mem0_wr {bs : Nat → Nat} {ρ : Nat → Int} {g : List (Nat × List V)} : ∀ b, ¬ Wr (cx0 bs ρ) (mem0 g) b := by
  rintro b ⟨i, blk, h1, h2, _⟩
  obtain ⟨l, _, rfl⟩ := layG_get (show (layG g).get i = some blk from h1)
  rw [(lyB_wr _).1] at h2
  simp at h2

/-- a closed call that returns true -/
theorem closed_ok {P : Program} (hP : Plain P) {kw : Kw} (hkw : KwOK P (fun _ => 0) kw) {it d : Nat} {f : FuncId} {g : List (Nat × List V)} (h : allTrue (evFn P kw it d f [] (mem0 g) pc0) = true) (w : World)
    (hw : LaidW w g) (hne : f ≠ yId := by decide) :
    Calls P f #[] w fun e w' => e = .returned (.bool true) ∧ Below w.heap.size w w' := by
  obtain ⟨bs, hw⟩ := hw
  obtain ⟨m, q, he⟩ := allTrue_out (fun _ => 0) h
  refine (evFn_call hP hkw it d hne [] (cx0 bs fun _ => 0) _ m w pc0 q _ #[] rfl (mem0_ok hw) pc0_ok glob0 VRs.nil he).2.mono fun e w' hR => ?_
  obtain ⟨c', z, rfl, s, hz, _⟩ := hR
  rw [VR.bool] at hz
  subst hz
  exact ⟨rfl, s.below mem0_wr⟩

/-! ### a closed call that is known -/

noncomputable def eqLV (a b : List V) : Bool := eqVV (.agg a) (.agg b)

/-- the variable is laid so -/
noncomputable def laidAt (m : Mem) (g : List (Nat × List V)) : Bool := allL (fun x => andB (Nat.blt x.1 4096) (selB (Nat.blt x.1 3072) (onCells (m.tr.get x.1) (fun l _ _ _ => eqLV l x.2) false) (onPm (m.tr.get x.1) (fun l _ => eqLV (unpairsV l) x.2) false))) g

/-- the call returns true, where the variables are laid so -/
noncomputable def knTrue (g : List (Nat × List V)) (l : List V) : M V := (List.rec (motive := fun _ => M V) ((fun m p => selB (laidAt m g) (.ret ⟨.bool (.lit true), m, p⟩) (.fail "a variable"))) (fun _ _ _ => M.fail "arguments") (l))

noncomputable def kwTrue (f : FuncId) (g : List (Nat × List V)) (r : Kw) : Kw := fun i => selB (Nat.beq i f) (some fun _ => knTrue g) (r i)

theorem Step.of_below {c : Cx} {m : Mem} {w w' : World} (hm : MemR c m w) (hb : Below w.heap.size w w') : Step c m w c m w' :=
  ⟨⟨hm.nb, hm.nt, fun i b h => (hm.blk i b h).on (Cx.le.refl c) fun hl => hb.block _ (((hm.blk i b h).live hl).2.lt hl), hm.inj, hm.tok⟩, Cx.le.refl c, hb.os, hb.tape, hb.output, hb.size, fun b hb' _ => hb.block b hb', fun _ h => .inl h, fun _ h => .inl h⟩

/-- a value without variables, and without places but laid maps -/
noncomputable def fixV (v : V) : Bool := orB (onInt v (fun _ e => onN e (fun _ => true) false) false)
  (orB (onBool v (fun b => (B.rec (motive := fun _ => Bool) (fun _ => true) (fun _ _ => false) (fun _ _ => false) (fun _ _ => false) (b))) false) (orB (onMap v (fun i => andB (Nat.ble 3072 i) (Nat.blt i 4096)) false) (onStr v (fun l => allL (fun e => onN e (fun _ => true) false) l) false)))

/-- values without variables, and without places but laid maps: they mean the same everywhere -/
noncomputable def fixed (l : List V) : Bool := (List.rec (motive := fun _ => Bool) (true) (fun v _ ih => (Bool.rec (motive := fun _ => Bool) (false) (ih) (fixV v))) (l))

/-- the laid maps have the same places -/
def LyR (c c' : Cx) : Prop := ∀ i, 3072 ≤ i → i < 4096 → c'.has i ∧ (c'.β i).1 = (c.β i).1

theorem fixV_ok {c c' : Cx} (hl : LyR c c') {v : V} {x : Value} (h : fixV v = true) (hv : VR c v x) : VR c' v x := by
  rcases orB_ok (show orB _ _ = true from h) with h | h
  · rcases onInt_cases v (fun _ e => onN e (fun _ => true) false) false with ⟨k, e, rfl, he⟩ | he <;> rw [he] at h
    · cases e with
      | n z => rw [VR.int] at hv ⊢; exact hv
      | _ => exact absurd (show false = true from h) (by simp)
    · simp at h
  rcases orB_ok (show orB _ _ = true from h) with h | h
  · rcases onBool_cases v (fun b => (B.rec (fun _ => true) (fun _ _ => false) (fun _ _ => false) (fun _ _ => false) b : Bool)) false with ⟨b, rfl, he⟩ | he
    · have h : (B.rec (fun _ => true) (fun _ _ => false) (fun _ _ => false) (fun _ _ => false) b : Bool) = true := he ▸ h
      cases b with
      | lit u => rw [VR.bool] at hv ⊢; exact hv
      | _ => exact absurd (show false = true from h) (by simp)
    · have h : false = true := he ▸ h
      simp at h
  rcases orB_ok (show orB _ _ = true from h) with h | h
  rotate_left
  · rcases onStr_cases v (fun l => allL (fun e => onN e (fun _ => true) false) l) false with ⟨l, rfl, he⟩ | he
    · have h : allL (fun e => onN e (fun _ => true) false) l = true := he ▸ h
      obtain ⟨s, hs, hb⟩ := VR.str.1 hv
      refine VR.str.2 ⟨s, hs, ?_⟩
      unfold BR at *
      rw [← hb]
      refine List.map_congr_left fun e he => ?_
      have := allL_ok h e he
      cases e with
      | n z => rfl
      | _ => exact absurd (show false = true from this) (by simp)
    · have h : false = true := he ▸ h
      simp at h
  · rcases onMap_cases v (fun i => andB (Nat.ble 3072 i) (Nat.blt i 4096)) false with ⟨i, rfl, he⟩ | he <;> rw [he] at h
    · obtain ⟨h1, h2⟩ := andB_ok h
      rw [ble_iff] at h1
      rw [blt_iff] at h2
      obtain ⟨h3, h4⟩ := hl i h1 h2
      rw [VR.map] at hv ⊢
      exact ⟨h3, by rw [h4]; exact hv.2⟩
    · simp at h

theorem fixed_cons {v : V} {l : List V} (h : fixed (v :: l) = true) : fixV v = true ∧ fixed l = true := by
  have h : (Bool.rec false (fixed l) (fixV v) : Bool) = true := h
  cases hu : fixV v with
  | false => rw [hu] at h; exact absurd h (by simp)
  | true => rw [hu] at h; exact ⟨rfl, h⟩

theorem fixed_ok {c c' : Cx} (hc : LyR c c') : ∀ {l : List V} {j : Nat} {v : V} {x : Value}, fixed l = true → l[j]? = some v → VR c v x → VR c' v x
  | [], j, v, x, _, h, _ => by simp at h
  | u :: l, j, v, x, hf, h, hv => by
    obtain ⟨h1, h2⟩ := fixed_cons hf
    cases j with
    | succ j => exact fixed_ok hc h2 (by simpa using h) hv
    | zero =>
      simp at h; subst h
      exact fixV_ok hc h1 hv

theorem KvR.fix {c c' : Cx} (hc : LyR c c') : ∀ {es : List (V × V)} {l : List MapEntry}, (∀ e ∈ es, fixV e.1 = true ∧ fixV e.2 = true) → KvR c es l → KvR c' es l
  | [], [], _, _ => trivial
  | _ :: _, _ :: _, hf, ⟨h1, h2, h3⟩ => ⟨fixV_ok hc (hf _ (.head _)).1 h1, fixV_ok hc (hf _ (.head _)).2 h2, KvR.fix hc (fun e he => hf e (.tail _ he)) h3⟩
  | [], _ :: _, _, h => h.elim
  | _ :: _, [], _, h => h.elim

/-- pairsV, with a key that waits -/
def pairsO : List V → Option V → List (V × V)
  | [], _ => []
  | v :: l, none => pairsO l (some v)
  | v :: l, some k => (k, v) :: pairsO l none

theorem pairsV_eq (l : List V) : pairsV l = pairsO l none := by
  have : ∀ (l : List V) (o : Option V), (List.rec (motive := fun _ => Option V → List (V × V)) (fun _ => []) (fun v _ ih o => (Option.rec (ih (some v)) (fun k => (k, v) :: ih none) o : List (V × V))) l : Option V → List (V × V)) o = pairsO l o := by
    intro l
    induction l with
    | nil => intro o; rfl
    | cons v l ih => intro o; cases o <;> simp [pairsO, ih]
  exact this l none

theorem fixed_pairsO : ∀ {l : List V} {o : Option V}, fixed l = true → (∀ k, o = some k → fixV k = true) → ∀ e ∈ pairsO l o, fixV e.1 = true ∧ fixV e.2 = true
  | [], _, _, _, e, he => by simp [pairsO] at he
  | v :: l, none, h, _, e, he => fixed_pairsO (fixed_cons h).2 (fun k hk => by cases hk; exact (fixed_cons h).1) e he
  | v :: l, some k, h, hk, e, he => by
    simp only [pairsO, List.mem_cons] at he
    rcases he with rfl | he
    · exact ⟨hk k rfl, (fixed_cons h).1⟩
    · exact fixed_pairsO (fixed_cons h).2 (fun _ h => by cases h) e he

/-- a laid block means the same everywhere -/
theorem lyB_fix {c c' : Cx} (hc : LyR c c') {W : World} {x : Nat × List V} (hf : fixed x.2 = true) {p p' : Nat × Nat} (hp : p'.1 = p.1 ∧ (x.1 < 3072 → p' = p)) (h : BlkR c W p (lyB x)) : BlkR c' W p' (lyB x) := by
  rcases lyB_cases x with ⟨h1, e⟩ | ⟨h1, e⟩ <;> rw [e] at h ⊢
  · rw [hp.2 h1]
    obtain ⟨cs, t, fr, g1, g2, g3, g4, g5⟩ := h
    exact ⟨cs, t, fr, g1, fun j v hj => by
      obtain ⟨y, hy, hv⟩ := g2 j v hj
      exact ⟨y, hy, fixed_ok hc hf hj hv⟩, fun h => by simp at h, fun h => by simp at h, trivial⟩
  · obtain ⟨es', k, g1, l', g2, g3⟩ := h
    refine ⟨es', k, by rw [hp.1]; exact g1, l', g2, g3.fix hc ?_⟩
    rw [pairsV_eq]
    exact fixed_pairsO hf (fun _ h => by cases h)

theorem knTrue_ok {P : Program} {f : FuncId} (hf : Callable P f) {g : List (Nat × List V)} (hfx : allL (fun x => fixed x.2) g = true)
    (h : ∀ w : World, LaidW w g → Calls P f #[] w fun e w' => e = .returned (.bool true) ∧ Below w.heap.size w w')
    {c : Cx} {m m' : Mem} {w : World} {p q : Pc} {v : V} {args : Array Value} (hm : MemR c m w) (hp : PcR c.ρ p) (hg : GlobR c) {l : List V} (hl : VRs c l args.toList) (hk : (knTrue g l).gives c.ρ m p v m' q) : CallOK P f args c m w m' v q := by
  cases l with
  | cons x r => exact (M.gives_fail (s := "arguments") hk).elim
  | nil =>
  rw [VRs.nil_iff] at hl
  have ha : args = #[] := by simpa using hl
  subst ha
  have hk : (selB (laidAt m g) (.ret ⟨.bool (.lit true), m, p⟩) (.fail "a variable") : T (Rs V)).out c.ρ = some ⟨v, m', q⟩ := hk
  obtain ⟨h1, h2⟩ := T.out_selB hk
  simp [T.out] at h2
  obtain ⟨rfl, rfl, rfl⟩ := h2
  refine ⟨hf, (h w ⟨fun i => (c.β (3072 + i)).1, fun ρ x hx => ?_⟩).mono fun e w' hR => ?_⟩
  · obtain ⟨h3, h4⟩ := andB_ok (allL_ok h1 x hx)
    rw [blt_iff] at h3
    refine ⟨h3, ?_⟩
    have hfx := allL_ok hfx x hx
    have hly : LyR c (cx0 (fun i => (c.β (3072 + i)).1) ρ) := fun i h5 h6 => ⟨h6, by show (if i < 3072 then i else (c.β (3072 + (i - 3072))).1) = (c.β i).1; rw [if_neg (by omega), show 3072 + (i - 3072) = i by omega]⟩
    have key : ∀ b, m.tr.get x.1 = some b → b = lyB x ∨ (∃ l wr pl g, b = .cells l wr pl g ∧ lyB x = .cells l false false none) ∨ (∃ l wr, b = .pm l wr ∧ lyB x = .pm l false) := by
      intro b hb
      unfold lyB
      cases h7 : Nat.blt x.1 3072 with
      | true =>
        rw [h7, hb] at h4
        cases b with
        | cells l wr pl g' =>
          have e := eqVV_ok _ _ (show eqVV (.agg l) (.agg x.2) = true from h4)
          simp at e; subst e
          exact .inr (.inl ⟨_, _, _, _, rfl, rfl⟩)
        | _ => exact absurd (show false = true from h4) (by simp)
      | false =>
        rw [h7, hb] at h4
        cases b with
        | pm l wr =>
          have e := eqVV_ok _ _ (show eqVV (.agg (unpairsV l)) (.agg x.2) = true from h4)
          simp at e
          refine .inr (.inr ⟨l, wr, rfl, ?_⟩)
          show Blk.pm (pairsV x.2) false = _
          rw [← e, pairs_unpairs]
        | _ => exact absurd (show false = true from h4) (by simp)
    have hp' : ((cx0 (fun i => (c.β (3072 + i)).1) ρ).β x.1).1 = (c.β x.1).1 ∧ (x.1 < 3072 → (cx0 (fun i => (c.β (3072 + i)).1) ρ).β x.1 = c.β x.1) := by
      by_cases h8 : x.1 < 3072
      · have e1 : (cx0 (fun i => (c.β (3072 + i)).1) ρ).β x.1 = (x.1, 0) := by show (if x.1 < 3072 then x.1 else _, 0) = _; rw [if_pos h8]
        rw [e1, (hg.2 x.1 h8).2]
        exact ⟨rfl, fun _ => rfl⟩
      · exact ⟨(hly x.1 (by omega) h3).2, fun h => absurd h h8⟩
    cases hb : m.tr.get x.1 with
    | none =>
      rw [hb] at h4
      cases h7 : Nat.blt x.1 3072 <;> rw [h7] at h4 <;> exact absurd (show false = true from h4) (by simp)
    | some b =>
      refine lyB_fix hly hfx hp' ?_
      rcases key b hb with e | ⟨l, wr, pl, g', rfl, e⟩ | ⟨l, wr, rfl, e⟩
      · have h5 := hm.blk _ _ hb
        rw [e] at h5
        rcases lyB_cases x with ⟨_, e'⟩ | ⟨_, e'⟩ <;> rw [e'] at h5 ⊢ <;> exact h5.2
      · obtain ⟨_, cs, t, fr, g1, g2, g3, g4, g5⟩ := hm.blk _ _ hb
        rw [e]
        exact ⟨cs, t, fr, g1, g2, fun h => by simp at h, fun h => by simp at h, trivial⟩
      · obtain ⟨_, h5⟩ := hm.blk _ _ hb
        rw [e]; exact h5
  · obtain ⟨rfl, hb⟩ := hR
    exact ⟨c, _, rfl, Step.of_below hm hb, VR.lit, hp⟩

theorem kwTrue_ok {P : Program} {ρ : Nat → Int} {f : FuncId} (hf : Callable P f) {g : List (Nat × List V)} {r : Kw} (hr : KwOK P ρ r) (hfx : allL (fun x => fixed x.2) g = true)
    (h : ∀ w : World, LaidW w g → Calls P f #[] w fun e w' => e = .returned (.bool true) ∧ Below w.heap.size w w') : KwOK P ρ (kwTrue f g r) := by
  intro i tr hs ev hev l c m m' w p q v args hc hm hp hg hl hk
  have hs : selB (Nat.beq i f) (some fun _ => knTrue g) (r i) = some tr := hs
  cases hi : Nat.beq i f with
  | true =>
    rw [hi] at hs
    have hs : (some fun _ => knTrue g) = some tr := hs
    simp at hs; subst hs
    rw [beq_iff] at hi; subst hi
    exact knTrue_ok hf hfx h hm hp hg hl hk
  | false =>
    rw [hi] at hs
    exact hr i tr hs ev hev l c m m' w p q v args hc hm hp hg hl hk

theorem callable {P : Program} (hP : Plain P) {f : FuncId} (h : (match P.funcs[f]? with | some fn => fn.body.isSome | none => false) = true) : Callable P f := by
  cases hf : P.funcs[f]? with
  | none => rw [hf] at h; simp at h
  | some fn =>
    rw [hf] at h
    have := hP.fns f fn hf
    simp [goodFn] at this
    exact ⟨fn, hf, by cases hb : fn.body <;> simp_all, by simpa using this.1⟩

end Go.Sy

/-
  What is proved here: a call that returns true and changes nothing that was there is what a law's row asks.
  Conditions: the parameters' types can be read.
-/
namespace Go.Sy
open Go.ChangeShapes Go.WideShapes Go.ChangeAt Go.RowKit

/-- what a law's call does -/
def LawEnd (W : World) (e : Ending) (w' : World) : Prop := e = .returned (.bool true) ∧ Below W.heap.size W w'

/-- the parameters' types can be read -/
def parsOk (P : Program) (fn : Func) : Bool := fn.params.toList.all fun t => P.readableRec t && decide (t < P.types.size)

section
variable {H : Type} {enc : TypeId × Value → H} {P : Program}

theorem trodAll_below (hl : laidOutB P = true) {W W' : World} (hb : Below W.heap.size W W') : ∀ {ts : List TypeId} {vs : List Value} {ds : List (DataW H)} {ps : List MemPlace}, (ts.all fun t => P.readableRec t && decide (t < P.types.size)) = true →
    DataW.TrodAll enc P W 0 (fun _ => true) true ts vs ds ps → DataW.TrodAll enc P W' 0 (fun b => decide (b < W.heap.size)) true ts vs ds ps
  | [], [], [], _, _, h => h
  | t :: ts, v :: vs, d :: ds, ps, ht, h => by
    have hlt := DataW.TrodAll.lt h
    obtain ⟨p, q, h1, h2, rfl⟩ := h
    simp only [List.all_cons, Bool.and_eq_true, decide_eq_true_eq] at ht
    exact ⟨p, q, Below.trod hl ht.1.1 ht.1.2 h1 hb (fun x hx => hlt x (List.mem_append_left _ hx)), trodAll_below hl hb ht.2 h2, rfl⟩
  | [], _ :: _, _, _, _, h => by cases h
  | [], [], _ :: _, _, _, h => by cases h
  | _ :: _, [], _, _, _, h => by cases h
  | _ :: _, _ :: _, [], _, _, h => by cases h

theorem trodAll_len {W : World} {base : Nat} {sp : Nat → Bool} {held : Bool} : ∀ {ts : List TypeId} {vs : List Value} {ds : List (DataW H)} {ps : List MemPlace}, DataW.TrodAll enc P W base sp held ts vs ds ps → ds.length = ts.length
  | [], [], [], _, _ => rfl
  | t :: ts, v :: vs, d :: ds, ps, h => by
    obtain ⟨p, q, _, h2, _⟩ := h
    simp [trodAll_len h2]
  | [], _ :: _, _, _, h => by cases h
  | [], [], _ :: _, _, h => by cases h
  | _ :: _, [], _, _, h => by cases h
  | _ :: _, _ :: _, [], _, h => by cases h

theorem law_post (hl : laidOutB P = true) {fn : Func} (hpar : parsOk P fn = true) {tb : TypeId} (hr : fn.resultTypes = #[tb]) (htb : P.underlying tb = some .bool) {s : ChangeSpec} (hv : s.vars = [])
    (hs : ∀ (ds : List (DataW H)), ds.length = fn.params.size → s.fn H ds = { results := [.lit (.bool true)], args := ds }) {W W' : World} {args : Array Value} {ds gs : List (DataW H)} {before : List MemPlace}
    (hW : DataW.Whole enc P fn.params.toList s.vars false W args.toList ds gs before) (hb : Below W.heap.size W W') : s.post enc P fn false true false false W args (.bool true) W' := by
  have hW' := hW
  obtain ⟨p, q, hA, hV, rfl, _, _⟩ := hW
  rw [hv] at hV
  obtain ⟨rfl, rfl⟩ := trodVars_none hV
  have hlen : ds.length = fn.params.size := by
    have := trodAll_len hA
    simpa using this
  have e := hs ds hlen
  refine ⟨ds, [], _, [], p, [], hW', ?_, ?_, ?_, hb.frame _, fun h => by cases h⟩
  · rw [List.append_nil, e, hr]
    exact trodAll_mk1 (shut_bool htb true)
  · rw [List.append_nil, e]
    exact trodAll_below hl hb hpar hA
  · rw [List.append_nil, e, hv]
    exact (rfl : ([] : List MemPlace) = [])
end

/-- a law's row, out of its calls -/
theorem law_lifted {C : Checked} {os : Os} {f : FuncId} {fn : Func} {s : ChangeSpec} {tb : TypeId} (own : ownKnob C.prog.godebug = none) (started : os.Started) (noInit : C.prog.inits.idxOf? f = none) (hfn : C.prog.funcs[f]? = some fn)
    (hl : laidOutB C.prog = true) (hpar : parsOk C.prog fn = true) (hr : fn.resultTypes = #[tb]) (htb : C.prog.underlying tb = some .bool) (hv : s.vars = [])
    {H : Type} {enc : TypeId × Value → H} (hs : ∀ (ds : List (DataW H)), ds.length = fn.params.size → s.fn H ds = { results := [.lit (.bool true)], args := ds })
    (witness : ∃ (w : World) (tape : Tape) (i : Input), w.os = os ∧ (w.forCall tape i).Shaped C.prog ∧ i.vars = [] ∧ Input.okWide C.prog (w.forCall tape i) .any w.heap.size f i ∧
      s.pre6 enc C.prog fn [] false (w.forCall tape i).memory i.args ∧ ({} : Assume).holds C.prog (lone (Frame.enter C.prog f i.args .normal) [] (w.forCall tape i)))
    (hcall : ∀ (W : World) (base : Nat) (args : Array Value) (ds : List (DataW H)) (ps : List MemPlace), (∀ (j : Nat) t v, fn.params[j]? = some t → args[j]? = some v → Value.okWide C.prog W .any base t v) →
      DataW.TrodAll enc C.prog W 0 (fun _ => true) true fn.params.toList args.toList ds ps → W.noneFrozen ps → Calls C.prog f args W (LawEnd W)) :
    ReturnsInHanded {} C os f .any (s.pre6 enc C.prog fn [] false) (s.post enc C.prog fn false true false false) := by
  refine returnsInHanded_of_change own started noInit hfn witness ?_
  intro W base args ds gs before hval hW _ _
  have hW' := hW
  obtain ⟨p, q, hA, hV, rfl, hz, _⟩ := hW
  refine (hcall W base args ds p hval hA (fun b off hp => hz b off (List.mem_append_left _ hp))).mono fun e W' he => ?_
  exact ⟨_, he.1, law_post hl hpar hr htb hv hs hW' he.2⟩

/-- the same, where variables are laid -/
theorem law_lifted_laid {C : Checked} {os : Os} {f : FuncId} {fn : Func} {s : ChangeSpec} {tb : TypeId} {laid : List (String × DataW Unit)} (own : ownKnob C.prog.godebug = none) (started : os.Started) (noInit : C.prog.inits.idxOf? f = none) (hfn : C.prog.funcs[f]? = some fn)
    (hl : laidOutB C.prog = true) (hpar : parsOk C.prog fn = true) (hr : fn.resultTypes = #[tb]) (htb : C.prog.underlying tb = some .bool) (hv : s.vars = [])
    {H : Type} {enc : TypeId × Value → H} (hs : ∀ (ds : List (DataW H)), ds.length = fn.params.size → s.fn H ds = { results := [.lit (.bool true)], args := ds })
    (witness : ∃ (w : World) (tape : Tape) (i : Input), w.os = os ∧ (w.forCall tape i).Shaped C.prog ∧ i.vars = [] ∧ Input.okWide C.prog (w.forCall tape i) .any w.heap.size f i ∧
      ((s.pre enc C.prog fn [] false (w.forCall tape i).memory i.args ∧ laidMetH C.prog laid (w.forCall tape i).memory) ∧ sizedMet enc C.prog fn (OpenSpec.ofChange s) false (w.forCall tape i).memory i.args) ∧
      ({} : Assume).holds C.prog (lone (Frame.enter C.prog f i.args .normal) [] (w.forCall tape i)))
    (hcall : ∀ (W : World) (base : Nat) (args : Array Value) (ds : List (DataW H)) (ps : List MemPlace), (∀ (j : Nat) t v, fn.params[j]? = some t → args[j]? = some v → Value.okWide C.prog W .any base t v) →
      DataW.TrodAll enc C.prog W 0 (fun _ => true) true fn.params.toList args.toList ds ps → W.noneFrozen ps → laidMetH C.prog laid W → Calls C.prog f args W (LawEnd W)) :
    ReturnsInHanded {} C os f .any (fun w args => (s.pre enc C.prog fn [] false w args ∧ laidMetH C.prog laid w) ∧ sizedMet enc C.prog fn (OpenSpec.ofChange s) false w args) (s.post enc C.prog fn false true false false) := by
  refine returnsInHanded_of_change_and (X := fun w _ => laidMetH C.prog laid w) (fun _ _ _ hh h => h.of_heap hh) own started noInit hfn witness ?_
  intro W base args ds gs before hval hW _ _ hL _
  have hW' := hW
  obtain ⟨p, q, hA, hV, rfl, hz, _⟩ := hW
  refine (hcall W base args ds p hval hA (fun b off hp => hz b off (List.mem_append_left _ hp)) hL).mono fun e W' he => ?_
  exact ⟨_, he.1, law_post hl hpar hr htb hv hs hW' he.2⟩

end Go.Sy

/-
  What is proved here: arguments of integers, bools, and structs of these, as the evaluator's values; a law's calls out of one run of the evaluator.
  Conditions: none.
-/
namespace Go.Sy
open Go.ChangeShapes Go.WideShapes Go.ChangeAt Go.RowKit

def valOf : Value → Int
  | .int _ n => n
  | .bool b => if b then 1 else 0
  | _ => 0

/-- a cell of that kind -/
def Lf.R : Lf → Value → Prop
  | .int k, v => ∃ n, v = .int k n ∧ (Lit.int k n).wf = true
  | .bool, v => ∃ b, v = .bool b
  | .str, v => ∃ s, v = .string s

def LfsR : List Lf → List Value → Prop
  | [], vs => vs = []
  | l :: ls, vs => ∃ v r, vs = v :: r ∧ l.R v ∧ LfsR ls r

def flatFs (flat : TypeId → Option (List Lf)) (P : Program) : List Field → Nat → Nat → Option (List Lf)
  | [], off, n => if off = n then some [] else none
  | f :: fs, off, n => if f.offset = off then (flat f.type).bind fun l => if l.length = P.cellsOf f.type then (flatFs flat P fs (off + l.length) n).map (l ++ ·) else none else none

def flatAr (l : List Lf) : Nat → List Lf
  | 0 => []
  | n + 1 => l ++ flatAr l n

/-- the cells of a type -/
def flatT (P : Program) : Nat → TypeId → Option (List Lf)
  | 0, _ => none
  | d + 1, t =>
    match P.underlying t with
    | some (.int k) => some [.int k]
    | some .bool => some [.bool]
    | some .string => some [.str]
    | some (.struct fs) => flatFs (flatT P d) P fs.toList 0 (P.cellsOf t)
    | some (.array n e) => (flatT P d e).bind fun l => if l.length = P.cellsOf e ∧ n * l.length = P.cellsOf t then some (flatAr l n) else none
    | _ => none

theorem LfsR.length : ∀ {ls : List Lf} {vs : List Value}, LfsR ls vs → vs.length = ls.length
  | [], vs, h => by have h : vs = [] := h; subst h; rfl
  | l :: ls, vs, h => by
    obtain ⟨v, r, rfl, _, h2⟩ := h
    simp [h2.length]

theorem LfsR.append : ∀ {ls ls' : List Lf} {vs vs' : List Value}, LfsR ls vs → LfsR ls' vs' → LfsR (ls ++ ls') (vs ++ vs')
  | [], _, vs, _, h, h' => by have h : vs = [] := h; subst h; exact h'
  | l :: ls, _, vs, _, h, h' => by
    obtain ⟨v, r, rfl, h1, h2⟩ := h
    exact ⟨v, _, rfl, h1, h2.append h'⟩

section
variable {H : Type} {enc : TypeId × Value → H} {P : Program} {W : World} {base : Nat} {sp : Nat → Bool} {held : Bool}

/-- the cells that a datum tells -/
def dataV : Nat → DataW H → Option (List Value)
  | _ + 1, .lit (.int k n) => some [.int k n]
  | _ + 1, .lit (.bool b) => some [.bool b]
  | _ + 1, .lit (.string s) => some [.string ⟨s.toArray⟩]
  | d + 1, .agg parts => (parts.mapM (dataV d)).map List.flatten
  | _, _ => none

theorem flatFs_ok {flat : TypeId → Option (List Lf)} {rd : TypeId → List Value → Option (DataW H × List MemPlace)} {dv : DataW H → Option (List Value)} (hf : ∀ t l cs x, flat t = some l → rd t cs = some x → LfsR l cs ∧ dv x.1 = some cs) : ∀ {fs : List Field} {off n : Nat} {sh : List Lf} {cs : List Value} {xs : List (DataW H × List MemPlace)},
    cs.length = n → off ≤ n → flatFs flat P fs off n = some sh → fs.mapM (fun f => rd f.type ((cs.drop f.offset).take (P.cellsOf f.type))) = some xs → LfsR sh (cs.drop off) ∧ ((xs.map (·.1)).mapM dv).map List.flatten = some (cs.drop off)
  | [], off, n, sh, cs, xs, hn, ho, h, hx => by
    unfold flatFs at h
    split at h
    · rename_i e
      simp at h; subst h
      have : cs.drop off = [] := List.drop_eq_nil_of_le (by omega)
      rw [this]
      simp at hx; subst hx
      exact ⟨rfl, rfl⟩
    · simp at h
  | f :: fs, off, n, sh, cs, xs, hn, ho, h, hm => by
    unfold flatFs at h
    split at h
    · rename_i e
      obtain ⟨l, h1, h2⟩ := Option.bind_eq_some_iff.1 h
      split at h2
      · rename_i hl
        obtain ⟨r, h3, rfl⟩ := Option.map_eq_some_iff.1 h2
        rw [List.mapM_cons] at hm
        cases hx : rd f.type ((cs.drop f.offset).take (P.cellsOf f.type)) with
        | none => simp [hx] at hm
        | some x =>
          rw [hx] at hm
          cases hy : fs.mapM (fun f => rd f.type ((cs.drop f.offset).take (P.cellsOf f.type))) with
          | none => simp [hy] at hm
          | some ys =>
            rw [hy] at hm
            have hm : some (x :: ys) = some xs := hm
            simp at hm; subst hm
            have h4 := hf _ _ _ _ h1 hx
            have hlen := h4.1.length
            rw [List.length_take, List.length_drop] at hlen
            have hle : off + l.length ≤ n := by omega
            obtain ⟨h5, h6⟩ := flatFs_ok hf hn hle h3 hy
            have e2 : cs.drop off = (cs.drop f.offset).take (P.cellsOf f.type) ++ cs.drop (off + l.length) := by
              rw [e, ← hl, ← List.drop_drop, List.take_append_drop]
            rw [e2]
            obtain ⟨css, h7, h8⟩ := Option.map_eq_some_iff.1 h6
            exact ⟨h4.1.append h5, by simp [List.mapM_cons, h4.2, h7, h8]⟩
      · simp at h2
    · simp at h

theorem flatAr_ok {l : List Lf} {e : TypeId} {rd : List Value → Option (DataW H × List MemPlace)} {dv : DataW H → Option (List Value)} (hf : ∀ cs x, rd cs = some x → LfsR l cs ∧ dv x.1 = some cs) (hl : l.length = P.cellsOf e) {cs : List Value} : ∀ {n i : Nat} {xs : List (DataW H × List MemPlace)},
    cs.length = (i + n) * l.length → ((List.range' i n).mapM fun j => rd ((cs.drop (j * P.cellsOf e)).take (P.cellsOf e))) = some xs → LfsR (flatAr l n) (cs.drop (i * l.length)) ∧ ((xs.map (·.1)).mapM dv).map List.flatten = some (cs.drop (i * l.length))
  | 0, i, xs, hn, h => by
    have : cs.drop (i * l.length) = [] := List.drop_eq_nil_of_le (by rw [hn]; simp)
    rw [this]
    simp at h; subst h
    exact ⟨rfl, rfl⟩
  | n + 1, i, xs, hn, h => by
    rw [List.range'_succ, List.mapM_cons] at h
    cases hx : rd ((cs.drop (i * P.cellsOf e)).take (P.cellsOf e)) with
    | none => simp [hx] at h
    | some x =>
      rw [hx] at h
      cases hy : (List.range' (i + 1) n).mapM (fun j => rd ((cs.drop (j * P.cellsOf e)).take (P.cellsOf e))) with
      | none => simp [hy] at h
      | some ys =>
        rw [hy] at h
        have h : some (x :: ys) = some xs := h
        simp at h; subst h
        have h1 := hf _ _ hx
        obtain ⟨h2, h3⟩ := flatAr_ok hf hl (n := n) (i := i + 1) (cs := cs) (by rw [hn]; congr 1; omega) hy
        have e2 : cs.drop (i * l.length) = (cs.drop (i * P.cellsOf e)).take (P.cellsOf e) ++ cs.drop ((i + 1) * l.length) := by
          rw [hl, Nat.succ_mul, ← List.drop_drop, List.take_append_drop]
        rw [e2]
        obtain ⟨css, h7, h8⟩ := Option.map_eq_some_iff.1 h3
        exact ⟨h1.1.append h2, by simp [List.mapM_cons, h1.2, h7, h8]⟩

theorem flatT_ok : ∀ (d : Nat) (n : Nat) (t : TypeId) (l : List Lf) (cs : List Value) (x : DataW H × List MemPlace), flatT P d t = some l → DataW.trod enc P W base sp held n t cs = some x → LfsR l cs ∧ dataV d x.1 = some cs
  | 0, _, _, _, _, _, h, _ => by simp [flatT] at h
  | d + 1, 0, _, _, _, _, _, h => by simp [DataW.trod] at h
  | d + 1, n + 1, t, l, cs, x, h, hx => by
    unfold flatT at h
    split at h
    · rename_i k hu
      simp at h; subst h
      obtain ⟨m, rfl, rfl, hw⟩ := DataW.trod_int hu hx
      exact ⟨⟨_, [], rfl, ⟨m, rfl, hw⟩, rfl⟩, rfl⟩
    · rename_i hu
      simp at h; subst h
      obtain ⟨b, rfl, rfl⟩ := DataW.trod_bool hu hx
      exact ⟨⟨_, [], rfl, ⟨b, rfl⟩, rfl⟩, rfl⟩
    · rename_i hu
      simp at h; subst h
      obtain ⟨s, rfl, rfl, _⟩ := DataW.trod_string hu hx
      exact ⟨⟨_, [], rfl, ⟨s, rfl⟩, rfl⟩, by simp [dataV]⟩
    · rename_i fs hu
      have hx' := hx
      simp only [DataW.trod, hu] at hx'
      split at hx'
      · rename_i hlen
        obtain ⟨xs, h1, rfl⟩ := Option.map_eq_some_iff.1 hx'
        have := flatFs_ok (rd := DataW.trod enc P W base sp held n) (dv := dataV d) (fun t l cs x h hx => flatT_ok d n t l cs x h hx) hlen (Nat.zero_le _) h h1
        simpa [dataV] using this
      · simp at hx'
    · rename_i m e hu
      have hx' := hx
      simp only [DataW.trod, hu] at hx'
      obtain ⟨l', h1, h2⟩ := Option.bind_eq_some_iff.1 h
      split at h2
      · rename_i hl
        simp at h2; subst h2
        split at hx'
        · rename_i hlen
          obtain ⟨xs, h3, rfl⟩ := Option.map_eq_some_iff.1 hx'
          rw [List.range_eq_range'] at h3
          have := flatAr_ok (P := P) (e := e) (l := l') (rd := DataW.trod enc P W base sp held n e) (dv := dataV d) (fun cs x hx => flatT_ok d n e l' cs x h1 hx) hl.1 (cs := cs) (n := m) (i := 0)
            (by rw [hlen, ← hl.2, Nat.zero_add]) h3
          simpa [dataV] using this
        · simp at hx'
      · simp at h2
    · simp at h

/-! ### the parameters -/

/-- the value that stands for a cell: the variable i -/
def Lf.v : Lf → Nat → V
  | .int k, i => .int k (.x i)
  | .bool, i => .bool (.eq (.x i) (.n 1))
  | .str, _ => .bad

noncomputable def Lf.rng : Lf → Int × Int
  | .int k => (kMin k, kMax k)
  | _ => (0, 1)

def cellsV : List Lf → Nat → List V
  | [], _ => []
  | l :: ls, i => l.v i :: cellsV ls (i + 1)

theorem wf_rng {k : IntKind} {n : Int} (h : (Lit.int k n).wf = true) : kMin k ≤ n ∧ n ≤ kMax k := by
  cases k <;> simp [Lit.wf, IntKind.min, IntKind.max, IntKind.signed, IntKind.bits] at h <;> simp [kMin, kMax, IntKind.signed, limN] <;> omega

theorem Lf.v_ok {c : Cx} {l : Lf} {v : Value} {i : Nat} (h : l.R v) (hi : c.ρ i = valOf v) : VR c (l.v i) v := by
  cases l with
  | int k =>
    obtain ⟨n, rfl, hw⟩ := h
    have hi : c.ρ i = n := hi
    obtain ⟨h1, h2⟩ := wf_rng hw
    exact VR.int.2 ⟨by show _ = Value.int k (c.ρ i); rw [hi], by show _ ≤ c.ρ i; rw [hi]; exact h1, by show c.ρ i ≤ _; rw [hi]; exact h2⟩
  | bool =>
    obtain ⟨b, rfl⟩ := h
    refine VR.bool.2 ?_
    show Value.bool b = .bool (c.ρ i == 1)
    rw [hi]
    cases b <;> rfl
  | str => exact VR.bad

theorem Lf.rng_ok {l : Lf} {v : Value} (h : l.R v) : l.rng.1 ≤ valOf v ∧ valOf v ≤ l.rng.2 := by
  cases l with
  | int k => obtain ⟨n, rfl, hw⟩ := h; exact wf_rng hw
  | bool => obtain ⟨b, rfl⟩ := h; cases b <;> simp [Lf.rng, valOf]
  | str => obtain ⟨s, rfl⟩ := h; simp [Lf.rng, valOf]

theorem cellsV_ok {c : Cx} : ∀ {ls : List Lf} {vs : List Value} {i : Nat}, LfsR ls vs → (∀ j, j < vs.length → c.ρ (i + j) = valOf (vs.getD j undef)) → VRs c (cellsV ls i) vs
  | [], vs, i, h, _ => by have h : vs = [] := h; subst h; exact VRs.nil
  | l :: ls, vs, i, h, hv => by
    obtain ⟨v, r, rfl, h1, h2⟩ := h
    refine VRs.cons (Lf.v_ok h1 (by have := hv 0 (by simp); simpa using this)) (cellsV_ok h2 fun j hj => ?_)
    have := hv (j + 1) (by simpa using hj)
    rw [show i + 1 + j = i + (j + 1) by omega]
    simpa using this

/-- a parameter's shape -/
structure Sh where
  agg : Bool
  ls : List Lf

def shapeOf (P : Program) (t : TypeId) : Option Sh :=
  match P.underlying t with
  | some (.struct _) | some (.array _ _) => (flatT P 8 t).map fun l => ⟨true, l⟩
  | some (.int _) | some .bool => (flatT P 8 t).map fun l => ⟨false, l⟩
  | _ => none

def Sh.v (s : Sh) (i : Nat) : V := cond s.agg (.agg (cellsV s.ls i)) ((cellsV s.ls i).headD .bad)

def argsV : List Sh → Nat → List V
  | [], _ => []
  | s :: r, i => s.v i :: argsV r (i + s.ls.length)

noncomputable def argsRng : List Sh → List (Int × Int)
  | [] => []
  | s :: r => s.ls.map Lf.rng ++ argsRng r

theorem arg_open {r : Reach} {b0 : Nat} {t : TypeId} {v : Value} {d : DataW H} {ps : List MemPlace} {s : Sh} (hs : shapeOf P t = some s) (hval : Value.okWide P W r b0 t v) (hd : DataW.Trod enc P W base sp held t v d ps) :
    ∃ cs, LfsR s.ls cs ∧ ∀ (c : Cx) (i : Nat), VRs c (cellsV s.ls i) cs → VR c (s.v i) v := by
  obtain ⟨n, hn⟩ := hd
  unfold shapeOf at hs
  have agg : ∀ l, flatT P 8 t = some l → s = ⟨true, l⟩ → (∃ cs, v = .agg cs) → ∃ cs, LfsR s.ls cs ∧ ∀ (c : Cx) (i : Nat), VRs c (cellsV s.ls i) cs → VR c (s.v i) v := by
    rintro l hl rfl ⟨cs, rfl⟩
    exact ⟨cs.toList, (flatT_ok 8 n t l _ _ hl hn).1, fun c i h => VR.agg.2 ⟨cs, rfl, h⟩⟩
  have one : ∀ l, flatT P 8 t = some l → s = ⟨false, l⟩ → v.cells.toList = [v] → ∃ cs, LfsR s.ls cs ∧ ∀ (c : Cx) (i : Nat), VRs c (cellsV s.ls i) cs → VR c (s.v i) v := by
    rintro l hl rfl hv
    have h1 := (flatT_ok 8 n t l _ _ hl hn).1
    rw [hv] at h1
    refine ⟨[v], h1, fun c i h => ?_⟩
    cases l with
    | nil => have h1 : [v] = [] := h1; simp at h1
    | cons l ls =>
      obtain ⟨x, ys, e, h2, _⟩ := VRs.cons_iff.1 h
      simp at e
      rw [e.1]; exact h2
  split at hs
  · rename_i fs hu
    obtain ⟨l, h1, rfl⟩ := Option.map_eq_some_iff.1 hs
    simp only [Value.okWide, hu] at hval
    obtain ⟨cs, e, _⟩ := hval
    exact agg l h1 rfl ⟨cs, e⟩
  · rename_i m e hu
    obtain ⟨l, h1, rfl⟩ := Option.map_eq_some_iff.1 hs
    simp only [Value.okWide, hu] at hval
    obtain ⟨cs, e, _⟩ := hval
    exact agg l h1 rfl ⟨cs, e⟩
  · rename_i k hu
    obtain ⟨l, h1, rfl⟩ := Option.map_eq_some_iff.1 hs
    obtain ⟨m, rfl⟩ := okWide_int hu hval
    exact one l h1 rfl rfl
  · rename_i hu
    obtain ⟨l, h1, rfl⟩ := Option.map_eq_some_iff.1 hs
    obtain ⟨b, e, _⟩ := open_bool hu hval ⟨n, hn⟩
    subst e
    exact one l h1 rfl rfl
  · simp at hs

theorem args_open : ∀ {ts : List TypeId} {vs : List Value} {ds : List (DataW H)} {ps : List MemPlace} {shs : List Sh} {r : Reach} {b0 : Nat}, DataW.TrodAll enc P W base sp held ts vs ds ps →
    (∀ (j : Nat) t v, ts[j]? = some t → vs[j]? = some v → Value.okWide P W r b0 t v) → ts.mapM (shapeOf P) = some shs →
    ∃ cells : List Value, LfsR (shs.flatMap (·.ls)) cells ∧ ∀ (c : Cx) (i : Nat), (∀ j, j < cells.length → c.ρ (i + j) = valOf (cells.getD j undef)) → VRs c (argsV shs i) vs
  | [], [], [], _, shs, r, b0, h, _, hs => by
    simp at hs; subst hs
    exact ⟨[], rfl, fun c i _ => VRs.nil⟩
  | t :: ts, v :: vs, d :: ds, ps, shs, r, b0, h, hval, hs => by
    obtain ⟨p, q, h1, h2, rfl⟩ := h
    rw [List.mapM_cons] at hs
    cases ha : shapeOf P t with
    | none => simp [ha] at hs
    | some s =>
      rw [ha] at hs
      cases hb : ts.mapM (shapeOf P) with
      | none => simp [hb] at hs
      | some ss =>
        rw [hb] at hs
        have hs : some (s :: ss) = some shs := hs
        simp at hs; subst hs
        obtain ⟨cs, h3, h4⟩ := arg_open ha (hval 0 t v rfl rfl) h1
        obtain ⟨cells, h5, h6⟩ := args_open h2 (fun j t v ht hv => hval (j + 1) t v (by simpa using ht) (by simpa using hv)) hb
        have hlen := h3.length
        refine ⟨cs ++ cells, by simpa using h3.append h5, fun c i hi => VRs.cons (h4 c i (cellsV_ok h3 fun j hj => ?_)) (h6 c _ fun j hj => ?_)⟩
        · rw [hi j (by simp; omega)]
          congr 1
          simp [List.getD_eq_getElem?_getD, List.getElem?_append_left hj]
        · rw [show i + s.ls.length + j = i + (cs.length + j) by omega, hi (cs.length + j) (by simpa using hj)]
          congr 1
          simp [List.getD_eq_getElem?_getD, List.getElem?_append_right]
  | [], _ :: _, _, _, _, _, _, h, _, _ => by cases h
  | [], [], _ :: _, _, _, _, _, h, _, _ => by cases h
  | _ :: _, [], _, _, _, _, _, h, _, _ => by cases h
  | _ :: _, _ :: _, [], _, _, _, _, h, _, _ => by cases h

theorem rng_open : ∀ {ls : List Lf} {vs : List Value}, LfsR ls vs → ∀ i lo hi, (ls.map Lf.rng)[i]? = some (lo, hi) → lo ≤ valOf (vs.getD i undef) ∧ valOf (vs.getD i undef) ≤ hi
  | [], _, _, i, lo, hi, h => by simp at h
  | l :: ls, vs, h, i, lo, hi, hr => by
    obtain ⟨v, r, rfl, h1, h2⟩ := h
    cases i with
    | zero =>
      simp at hr
      have := Lf.rng_ok h1
      rw [hr] at this
      simpa using this
    | succ i =>
      have := rng_open h2 i lo hi (by simpa using hr)
      simpa using this

theorem argsRng_eq : ∀ (shs : List Sh), argsRng shs = (shs.flatMap (·.ls)).map Lf.rng
  | [] => rfl
  | s :: r => by simp [argsRng, argsRng_eq r]
end

/-- a law of plain arguments, out of one run of the evaluator -/
theorem law_calls {P : Program} (hP : Plain P) {kw : Kw} (hkw : ∀ ρ, KwOK P ρ kw) {it d : Nat} {f : FuncId} {fn : Func} {g : List (Nat × List V)} {shs : List Sh} (hsh : fn.params.toList.mapM (shapeOf P) = some shs)
    (h : allTrue (evFn P kw it d f (argsV shs 0) (mem0 g) ⟨[], argsRng shs⟩) = true)
    {H : Type} {enc : TypeId × Value → H} {W : World} {base : Nat} {args : Array Value} {ds : List (DataW H)} {ps : List MemPlace} (hval : ∀ (j : Nat) t v, fn.params[j]? = some t → args[j]? = some v → Value.okWide P W .any base t v)
    (hA : DataW.TrodAll enc P W 0 (fun _ => true) true fn.params.toList args.toList ds ps) (hw : LaidW W g) (hne : f ≠ yId := by decide) :
    Calls P f args W (LawEnd W) := by
  obtain ⟨bs, hw⟩ := hw
  obtain ⟨cells, h1, h2⟩ := args_open hA (fun j t v ht hv => hval j t v (by simpa using ht) (by simpa using hv)) hsh
  let ρ : Nat → Int := fun j => valOf (cells.getD j undef)
  have h3 : VRs (cx0 bs ρ) (argsV shs 0) args.toList := h2 (cx0 bs ρ) 0 fun j _ => by show valOf (cells.getD (0 + j) undef) = _; rw [Nat.zero_add]
  have hp : PcR ρ ⟨[], argsRng shs⟩ := ⟨fun c hc => by simp at hc, fun i lo hi hr => by
    have hr : (argsRng shs)[i]? = some (lo, hi) := hr
    rw [argsRng_eq] at hr
    exact rng_open h1 i lo hi hr⟩
  obtain ⟨m, q, he⟩ := allTrue_out ρ h
  refine (evFn_call hP (hkw ρ) it d hne _ (cx0 bs ρ) _ m W _ q _ args rfl (mem0_ok hw) hp glob0 h3 he).2.mono fun e w' hR => ?_
  obtain ⟨c', z, rfl, s, hz, _⟩ := hR
  rw [VR.bool] at hz
  subst hz
  exact ⟨rfl, s.below mem0_wr⟩

end Go.Sy

/-
  What is proved here: what the laid variables hold, as the evaluator's memory.
  Conditions: the variables' types are made of integers and bools, or maps of these.
-/
namespace Go.Sy
open Go.ChangeShapes Go.WideShapes Go.ChangeAt Go.RowKit

/-- a known cell -/
def valV : Value → V
  | .int k n => .int k (.n n)
  | .bool b => .bool (.lit b)
  | .string s => .str (s.data.toList.map fun b => .n (.ofNat b.toNat))
  | _ => .bad

theorem valV_ok {c : Cx} : ∀ {ls : List Lf} {vs : List Value}, LfsR ls vs → ∀ (j : Nat) (v : V), (vs.map valV)[j]? = some v → ∃ x, vs[j]? = some x ∧ VR c v x
  | [], vs, h, j, v, hv => by have h : vs = [] := h; subst h; simp at hv
  | l :: ls, vs, h, j, v, hv => by
    obtain ⟨x, r, rfl, h1, h2⟩ := h
    cases j with
    | succ j => exact valV_ok h2 j v (by simpa using hv)
    | zero =>
      simp at hv; subst hv
      refine ⟨x, rfl, ?_⟩
      cases l with
      | int k =>
        obtain ⟨n, rfl, hw⟩ := h1
        obtain ⟨h3, h4⟩ := wf_rng hw
        exact VR.int.2 ⟨rfl, h3, h4⟩
      | bool => obtain ⟨b, rfl⟩ := h1; exact VR.bool.2 rfl
      | str =>
        obtain ⟨s, rfl⟩ := h1
        refine VR.str.2 ⟨s, rfl, ?_⟩
        unfold BR
        rw [List.map_map]
        rfl

/-- a type of one number -/
def oneT (P : Program) (t : TypeId) : Option Lf := match P.underlying t with
  | some (.int k) => some (.int k)
  | some .bool => some .bool
  | _ => none

/-- a map's entry, as the evaluator has it -/
def entV (x : Lit × DataW Unit) : Option (V × V) := match x.1, x.2 with
  | .int k n, .lit (.int k' n') => some (.int k (.n n), .int k' (.n n'))
  | .int k n, .lit (.bool b) => some (.int k (.n n), .bool (.lit b))
  | .bool b, .lit (.int k' n') => some (.bool (.lit b), .int k' (.n n'))
  | .bool b, .lit (.bool b') => some (.bool (.lit b), .bool (.lit b'))
  | _, _ => none

section
variable {P : Program} {W : World} {c : Cx}

/-- an entry that reads so -/
def EntR (P : Program) (W : World) (k e : TypeId) (y : MapEntry) (x : Lit × DataW Unit) : Prop :=
  keyOf P k y.key = some x.1 ∧ y.val.formed P e = true ∧ ∃ n p, DataW.trod (fun _ => ()) P W 0 (fun _ => true) false n e y.val.cells.toList = some (x.2, p)

def EntsR (P : Program) (W : World) (k e : TypeId) : List MapEntry → List (Lit × DataW Unit) → Prop
  | [], [] => True
  | y :: ys, x :: xs => EntR P W k e y x ∧ EntsR P W k e ys xs
  | _, _ => False

theorem EntsR.perm {k e : TypeId} {xs xs' : List (Lit × DataW Unit)} (hp : xs.Perm xs') : ∀ {ys : List MapEntry}, EntsR P W k e ys xs → ∃ ys', ys'.Perm ys ∧ EntsR P W k e ys' xs' := by
  induction hp with
  | nil => exact fun h => ⟨_, .refl _, h⟩
  | @cons x a b hp ih =>
    intro ys h
    cases ys with
    | nil => exact h.elim
    | cons y ys =>
      obtain ⟨ys', h1, h2⟩ := ih h.2
      exact ⟨y :: ys', h1.cons y, h.1, h2⟩
  | @swap x y l =>
    intro ys h
    cases ys with
    | nil => exact h.elim
    | cons a ys =>
      cases ys with
      | nil => exact h.2.elim
      | cons b ys => exact ⟨b :: a :: ys, .swap _ _ _, h.2.1, h.1, h.2.2⟩
  | trans _ _ ih1 ih2 =>
    intro ys h
    obtain ⟨ys', h1, h2⟩ := ih1 h
    obtain ⟨ys'', h3, h4⟩ := ih2 h2
    exact ⟨ys'', h3.trans h1, h4⟩

theorem one_key {k : TypeId} {l : Lf} (hk : oneT P k = some l) {v : Value} {x : Lit} (h : keyOf P k v = some x) :
    (∃ q n, x = .int q n ∧ VR c (.int q (.n n)) v) ∨ (∃ b, x = .bool b ∧ VR c (.bool (.lit b)) v) := by
  unfold oneT at hk
  split at hk
  · rename_i q hu
    have h : mapKey P k v = some x := by rw [← h]; simp [keyOf, hu]
    unfold mapKey at h
    rw [hu] at h
    cases v with
    | int q' n =>
      simp only at h
      split at h
      · rename_i hc
        obtain ⟨rfl, hw⟩ := hc
        cases h
        obtain ⟨h3, h4⟩ := wf_rng hw
        exact .inl ⟨_, _, rfl, VR.int.2 ⟨rfl, h3, h4⟩⟩
      · simp at h
    | _ => simp at h
  · rename_i hu
    have h : mapKey P k v = some x := by rw [← h]; simp [keyOf, hu]
    unfold mapKey at h
    rw [hu] at h
    cases v with
    | bool b => simp at h; subst h; exact .inr ⟨b, rfl, VR.lit⟩
    | _ => simp at h
  · simp at hk

theorem one_val {e : TypeId} {l : Lf} (he : oneT P e = some l) {v : Value} {d : DataW Unit} {n : Nat} {p : List MemPlace} (hf : v.formed P e = true) (h : DataW.trod (fun _ => ()) P W 0 (fun _ => true) false n e v.cells.toList = some (d, p)) :
    (∃ q n, d = .lit (.int q n) ∧ VR c (.int q (.n n)) v) ∨ (∃ b, d = .lit (.bool b) ∧ VR c (.bool (.lit b)) v) := by
  have one : (∀ cs, v ≠ .agg cs) → (∀ cs, v ≠ .tuple cs) → v.cells.toList = [v] := by
    intro h1 h2
    cases v <;> first | rfl | exact absurd rfl (h1 _) | exact absurd rfl (h2 _)
  unfold oneT at he
  split at he
  · rename_i q hu
    have e1 : v.cells.toList = [v] := one (by rintro cs rfl; simp [Value.formed, hu] at hf) (by rintro cs rfl; simp [Value.formed] at hf)
    obtain ⟨m, h1, h2, hw⟩ := DataW.trod_int hu h
    rw [e1] at h1
    simp at h1 h2; obtain ⟨h2, _⟩ := h2; subst h1; subst h2
    obtain ⟨h3, h4⟩ := wf_rng hw
    exact .inl ⟨_, _, rfl, VR.int.2 ⟨rfl, h3, h4⟩⟩
  · rename_i hu
    have e1 : v.cells.toList = [v] := one (by rintro cs rfl; simp [Value.formed, hu] at hf) (by rintro cs rfl; simp [Value.formed] at hf)
    obtain ⟨b, h1, h2⟩ := DataW.trod_bool hu h
    rw [e1] at h1
    simp at h1 h2; obtain ⟨h2, _⟩ := h2; subst h1; subst h2
    exact .inr ⟨b, rfl, VR.lit⟩
  · simp at he

theorem EntsR.kv {k e : TypeId} {l l' : Lf} (hk : oneT P k = some l) (he : oneT P e = some l') : ∀ {ys : List MapEntry} {xs : List (Lit × DataW Unit)} {vs : List (V × V)}, EntsR P W k e ys xs → xs.mapM entV = some vs → KvR c vs ys
  | [], [], vs, _, hv => by simp at hv; subst hv; trivial
  | y :: ys, x :: xs, vs, h, hv => by
    rw [List.mapM_cons] at hv
    cases h1 : entV x with
    | none => rw [h1] at hv; simp at hv
    | some u =>
      rw [h1] at hv
      cases h2 : xs.mapM entV with
      | none => rw [h2] at hv; simp at hv
      | some us =>
        rw [h2] at hv
        have hv : some (u :: us) = some vs := hv
        simp at hv; subst hv
        obtain ⟨⟨g1, g2, n, p, g3⟩, g4⟩ := h
        obtain ⟨xk, xd⟩ := x
        have r := EntsR.kv hk he g4 h2
        rcases one_key (c := c) hk g1 with ⟨q, m, e1, k1⟩ | ⟨b, e1, k1⟩ <;> rcases one_val (c := c) he g2 g3 with ⟨q', m', e2, k2⟩ | ⟨b', e2, k2⟩ <;>
          (simp only at e1 e2; subst e1; subst e2; simp [entV] at h1; subst h1; exact ⟨k1, k2, r⟩)
  | [], _ :: _, _, h, _ => h.elim
  | _ :: _, [], _, h, _ => h.elim

/-- a map's cell -/
theorem map_open {t k e : TypeId} (ht : P.underlying t = some (.map k e)) {cs : List Value} {es : List (Lit × DataW Unit)} {n : Nat} {p : List MemPlace} (h : DataW.trod (fun _ => ()) P W 0 (fun _ => true) false n t cs = some (.map es, p)) :
    ∃ b es' clock ys, cs = [.map (some b)] ∧ W.heap[b]? = some (.map es' clock) ∧ ys.Perm es'.toList ∧ EntsR P W k e ys es := by
  cases n with
  | zero => simp [DataW.trod] at h
  | succ n =>
    rw [DataW.trod_step] at h
    unfold DataW.trodStep at h
    have hcs : ∃ b es' clock, cs = [.map (some b)] ∧ W.heap[b]? = some (.map es' clock) := by
      simp only [ht] at h
      split at h <;> try (simp_all; done)
      all_goals first
        | (rename_i b _; cases hb : W.heap[b]? with
            | none => rw [hb] at h; simp at h
            | some o => rw [hb] at h; cases o <;> first | (simp at h; done) | exact ⟨_, _, _, rfl, hb⟩)
        | (simp at h; done)
    obtain ⟨b, es', clock, rfl, hb⟩ := hcs
    refine ⟨b, es', clock, ?_⟩
    simp only [ht, hb] at h
    split at h
    · obtain ⟨entries, h1, h2⟩ := Option.bind_eq_some_iff.1 h
      split at h2
      · simp at h2
        obtain ⟨rfl, _⟩ := h2
        have hall : ∀ {ys : List MapEntry} {en : List ((Lit × DataW Unit) × List MemPlace)}, (ys.mapM fun x => (keyOf P k x.key).bind fun key =>
            if x.val.formed P e then (DataW.trod (fun _ => ()) P W 0 (fun _ => true) false n e x.val.cells.toList).map fun y => ((key, y.1), y.2) else none) = some en → EntsR P W k e ys (en.map (·.1)) := by
          intro ys
          induction ys with
          | nil => intro en h; simp at h; subst h; trivial
          | cons y ys ih =>
            intro en h
            rw [List.mapM_cons] at h
            cases h3 : (keyOf P k y.key).bind (fun key => if y.val.formed P e then (DataW.trod (fun _ => ()) P W 0 (fun _ => true) false n e y.val.cells.toList).map fun y => ((key, y.1), y.2) else none) with
            | none => rw [h3] at h; simp at h
            | some u =>
              rw [h3] at h
              cases h4 : (ys.mapM fun x => (keyOf P k x.key).bind fun key =>
                if x.val.formed P e then (DataW.trod (fun _ => ()) P W 0 (fun _ => true) false n e x.val.cells.toList).map fun y => ((key, y.1), y.2) else none) with
              | none => rw [h4] at h; simp at h
              | some us =>
                rw [h4] at h
                have h : some (u :: us) = some en := h
                simp at h; subst h
                obtain ⟨key, k1, k2⟩ := Option.bind_eq_some_iff.1 h3
                split at k2
                · rename_i hf
                  obtain ⟨z, k3, rfl⟩ := Option.map_eq_some_iff.1 k2
                  exact ⟨⟨k1, hf, n, z.2, k3⟩, ih h4⟩
                · simp at k2
        obtain ⟨ys, g1, g2⟩ := (hall h1).perm (sorted_perm _).symm
        exact ⟨ys, rfl, hb, g1, g2⟩
      · simp at h2
    · simp at h
end

/-- the entries of a laid map -/
def mapD : DataW Unit → Option (List (Lit × DataW Unit))
  | .map es => some es
  | _ => none

/-- key and value types of a map of numbers -/
def mapT (P : Program) (t : TypeId) : Option (TypeId × TypeId) := match P.underlying t with
  | some (.map k e) => (oneT P k).bind fun _ => (oneT P e).map fun _ => (k, e)
  | _ => none

/-- the globals' cells, as the evaluator has them; the variable j holds a map, its name is 3072 + j -/
noncomputable def laidG (P : Program) : Nat → List (String × DataW Unit) → Option (List (Nat × List V))
  | _, [] => some []
  | j, (n, d) :: l => match P.globalNamed n with
    | some g => match (P.globals[g]?).map (·.type) with
      | some t => match mapT P t, mapD d with
        | some _, some es => match es.mapM entV with
          | some vs => if g < 3072 ∧ j < 1024 then (laidG P (j + 1) l).map fun r => (g, [.map (3072 + j)]) :: (3072 + j, unpairsV vs) :: r else none
          | none => none
        | _, _ => match flatT P 8 t, dataV 8 d with
          | some _, some vs => if g < 3072 then (laidG P (j + 1) l).map ((g, vs.map valV) :: ·) else none
          | _, _ => none
      | none => none
    | none => none

/-- the block of the map that a variable holds -/
def mapAt (P : Program) (W : World) (laid : List (String × DataW Unit)) (j : Nat) : Nat := match laid[j]? with
  | some (n, _) => match W.var? P n with
    | some cs => match cs.toList with
      | [.map (some b)] => b
      | _ => 0
    | none => 0
  | none => 0

theorem laidG_ok {P : Program} {W : World} {L : List (String × DataW Unit)} : ∀ {laid : List (String × DataW Unit)} {j : Nat} {g : List (Nat × List V)} {ps : List MemPlace}, (∀ i, laid[i]? = L[j + i]?) → laidG P j laid = some g → DataW.LaidVars P W laid ps →
    ∀ ρ, ∀ x ∈ g, x.1 < 4096 ∧ BlkR (cx0 (mapAt P W L) ρ) W ((cx0 (mapAt P W L) ρ).β x.1) (lyB x)
  | [], j, g, ps, _, hg, _, ρ, x, hx => by
    simp [laidG] at hg; subst hg; simp at hx
  | (n, d) :: l, j, g, ps, hL, hg, h, ρ, x, hx => by
    obtain ⟨g0, t0, cs0, f0, p0, q0, hg0, ht0, hv0, hd0, hrest, _⟩ := h
    have hL' : ∀ i, l[i]? = L[j + 1 + i]? := fun i => by have := hL (i + 1); rw [List.getElem?_cons_succ] at this; rw [this, Nat.add_assoc, Nat.add_comm 1 i]
    have hb : ∃ t fr, W.heap[g0]? = some (.cells cs0 t fr) := by
      unfold World.var? at hv0
      rw [hg0] at hv0
      simp only [Option.bind_some] at hv0
      cases hh : W.heap[g0]? with
      | none => rw [hh] at hv0; simp at hv0
      | some o =>
        rw [hh] at hv0
        cases o <;> simp at hv0
        subst hv0
        exact ⟨_, _, rfl⟩
    obtain ⟨t, fr, hb⟩ := hb
    have low : ∀ vs : List V, g0 < 3072 → (∀ (i : Nat) (v : V), vs[i]? = some v → ∃ y, cs0[i]? = some y ∧ VR (cx0 (mapAt P W L) ρ) v y) → (g0, vs).1 < 4096 ∧ BlkR (cx0 (mapAt P W L) ρ) W ((cx0 (mapAt P W L) ρ).β (g0, vs).1) (lyB (g0, vs)) := by
      intro vs hlt hvs
      refine ⟨show g0 < 4096 by omega, ?_⟩
      rcases lyB_cases (g0, vs) with ⟨_, e⟩ | ⟨h1, _⟩
      · rw [e, glob0.2 g0 hlt |>.2]
        exact ⟨cs0, t, fr, hb, fun i v hi => by
          obtain ⟨y, h1, h2⟩ := hvs i v hi
          exact ⟨y, by rw [Nat.zero_add]; exact h1, h2⟩, fun h => by simp at h, fun h => by simp at h, trivial⟩
      · have h1 : 3072 ≤ g0 := h1
        omega
    have plain : (match flatT P 8 t0, dataV 8 d with
          | some _, some vs => if g0 < 3072 then (laidG P (j + 1) l).map ((g0, vs.map valV) :: ·) else none
          | _, _ => none) = some g → x.1 < 4096 ∧ BlkR (cx0 (mapAt P W L) ρ) W ((cx0 (mapAt P W L) ρ).β x.1) (lyB x) := by
      intro hg
      cases hf : flatT P 8 t0 with
      | none => rw [hf] at hg; simp at hg
      | some ls =>
        cases hd : dataV 8 d with
        | none => rw [hf, hd] at hg; simp at hg
        | some vs =>
          rw [hf, hd] at hg
          simp only at hg
          split at hg
          · rename_i hlt
            obtain ⟨g', hg', rfl⟩ := Option.map_eq_some_iff.1 hg
            cases hx with
            | tail _ hx => exact laidG_ok hL' hg' hrest ρ x hx
            | head =>
              obtain ⟨h1, h2⟩ := flatT_ok 8 _ t0 ls _ _ hf hd0
              rw [hd] at h2
              simp at h2
              subst h2
              exact low _ hlt fun i v hi => by
                obtain ⟨y, hy, hv⟩ := valV_ok (c := cx0 (mapAt P W L) ρ) h1 i v hi
                exact ⟨y, by simpa using hy, hv⟩
          · simp at hg
    unfold laidG at hg
    rw [hg0] at hg
    simp only [ht0] at hg
    split at hg
    · rename_i ke es hmt hmd
      have hd : d = .map es := by cases d <;> simp [mapD] at hmd; rw [hmd]
      subst hd
      split at hg
      · rename_i vs hvs
        split at hg
        · rename_i hlt
          obtain ⟨g', hg', rfl⟩ := Option.map_eq_some_iff.1 hg
          unfold mapT at hmt
          split at hmt
          · rename_i k e hu
            obtain ⟨lk, hk, hmt⟩ := Option.bind_eq_some_iff.1 hmt
            obtain ⟨le, he, _⟩ := Option.map_eq_some_iff.1 hmt
            obtain ⟨b, es', clock, ys, h1, h2, h3, h4⟩ := map_open hu hd0
            have hat : mapAt P W L j = b := by
              unfold mapAt
              have := hL 0
              rw [List.getElem?_cons_zero, Nat.add_zero] at this
              rw [← this]
              simp only [hv0, h1]
            have hβ : (cx0 (mapAt P W L) ρ).β (3072 + j) = (b, 0) := by
              show (if 3072 + j < 3072 then 3072 + j else mapAt P W L (3072 + j - 3072), 0) = _
              rw [if_neg (by omega), show 3072 + j - 3072 = j by omega, hat]
            cases hx with
            | head =>
              refine low _ hlt.1 fun i v hi => ?_
              cases i with
              | succ i => simp at hi
              | zero =>
                simp at hi; subst hi
                refine ⟨.map (some b), by rw [← Array.getElem?_toList, h1]; rfl, VR.map.2 ⟨show 3072 + j < 4096 by omega, by rw [hβ]⟩⟩
            | tail _ hx =>
              cases hx with
              | tail _ hx => exact laidG_ok hL' hg' hrest ρ x hx
              | head =>
                refine ⟨show 3072 + j < 4096 by omega, ?_⟩
                rcases lyB_cases (3072 + j, unpairsV vs) with ⟨h5, _⟩ | ⟨_, e5⟩
                · have h5 : 3072 + j < 3072 := h5
                  omega
                · rw [e5]
                  show BlkR _ _ ((cx0 (mapAt P W L) ρ).β (3072 + j)) _
                  rw [hβ]
                  refine ⟨es', clock, h2, ys, h3, ?_⟩
                  rw [pairs_unpairs]
                  exact h4.kv hk he hvs
          · simp at hmt
        · simp at hg
      · simp at hg
    · exact plain hg

theorem laidMet_ok {P : Program} {W : World} {laid : List (String × DataW Unit)} {g : List (Nat × List V)} (hg : laidG P 0 laid = some g) (hp : (laid.all fun x => x.2.handleName?.isNone) = true) (h : laidMetH P laid W) : LaidW W g := by
  rw [MakeChecks.laidMetH_plain _ _ _ hp] at h
  obtain ⟨ps, h1, _⟩ := h
  exact ⟨mapAt P W laid, laidG_ok (fun i => by rw [Nat.zero_add]) hg h1⟩

end Go.Sy

