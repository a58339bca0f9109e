/-
  What is proved here: the evaluator's slice expressions, lookups, assertions, lengths and built values do what the model's do.
  Conditions: none.
-/
import Derived.Test.YtcipfcbaclfnhaaSyBin
import Derived.Test.YtcipfcbaclfnhaaSyRead2
namespace Go.Sy

/-- perhaps a value -/
def OptR (c : Cx) : Option V → Option Value → Prop
  | none, X => X = none
  | some v, X => ∃ x, X = some x ∧ VR c v x

section ops
variable {P : Program} {c : Cx} {m : Mem} {w : World} {p q : Pc}

theorem andB_iff {a b : Bool} : andB a b = true ↔ a = true ∧ b = true := by simp
theorem orB_iff {a b : Bool} : orB a b = true ↔ a = true ∨ b = true := by simp
theorem boundV_ok (hp : PcR c.ρ p) {x : V} {X : Value} {y i : Nat} (hx : VR c x X) (h : (boundV x y).gives c.ρ m p i q) :
    q = p ∧ i ≤ y ∧ ∀ (y' : Nat) (code : BoundsCode), y ≤ y' → (Instr.sliceBound X y' code).run P w = .ok i w := by
  unfold boundV at h
  obtain ⟨k, e, rfl, h1⟩ := onInt_gives h
  obtain ⟨j, p1, h2, h3⟩ := R.gives_bnd h1
  obtain ⟨h4, rfl⟩ := natR_gives hp h2
  obtain ⟨h5, h6⟩ := R.gives_if h3
  obtain ⟨rfl, rfl⟩ := R.gives_pure h6
  obtain ⟨rfl, _⟩ := VR.int.1 hx
  rw [ble_iff] at h5
  refine ⟨rfl, h5, fun y' code hy => ?_⟩
  have : (0 : Int) ≤ i ∧ (i : Int) ≤ y' := by omega
  simp [Instr.sliceBound, asIntOf, h4, this]

theorem splitO_ok (hp : PcR c.ρ p) {x : V} {o r : Option V} {O : Option Value} (ho : OptR c o O) (h : (splitO x o).gives c.ρ m p r q) : PcR c.ρ q ∧ OptR c r O := by
  cases o with
  | none =>
    obtain ⟨rfl, rfl⟩ := R.gives_pure (show (R.pure none).gives c.ρ m p r q from h)
    exact ⟨hp, ho⟩
  | some v =>
    obtain ⟨Y, rfl, hY⟩ := ho
    obtain ⟨u, p1, h1, h2⟩ := R.gives_bnd (show ((splitIx x v).bnd fun v => R.pure (some v)).gives c.ρ m p r q from h)
    obtain ⟨h3, h4⟩ := splitIx_ok hp hY h1
    obtain ⟨rfl, rfl⟩ := R.gives_pure h2
    exact ⟨h3, Y, rfl, h4⟩

theorem boundR_ok (hp : PcR c.ρ p) {x : Option V} {X : Option Value} {d y i : Nat} (hx : OptR c x X) (h : (boundR x d y).gives c.ρ m p i q) :
    q = p ∧ i ≤ y ∧ (X = none ∧ i = d ∨ ∃ z, X = some z ∧ ∀ (y' : Nat) (code : BoundsCode), y ≤ y' → (Instr.sliceBound z y' code).run P w = .ok i w) := by
  cases x with
  | none =>
    obtain ⟨h1, h2⟩ := R.gives_if (show (selB (Nat.ble d y) (R.pure d) (R.fail "slice bounds")).gives c.ρ m p i q from h)
    obtain ⟨rfl, rfl⟩ := R.gives_pure h2
    exact ⟨rfl, (ble_iff _ _).1 h1, .inl ⟨hx, rfl⟩⟩
  | some v =>
    obtain ⟨z, rfl, hz⟩ := hx
    obtain ⟨h1, h2, h3⟩ := boundV_ok (P := P) (w := w) hp hz (show (boundV v y).gives c.ρ m p i q from h)
    exact ⟨h1, h2, .inr ⟨z, rfl, h3⟩⟩

/-- the bounds: 'c0': what the third bound is held against; 'h0': what the second one is -/
theorem bounds_ok (hp : PcR c.ρ p) {lo hi mx : Option V} {L H M : Option Value} (hlo : OptR c lo L) (hhi : OptR c hi H) (hmx : OptR c mx M) {b : Bool} {len cap c0 h0 mm hh ll : Nat}
    (h2 : has2 hi mx = true) (hc : c0 ≤ cap) (hn : mx = none → mm = cap) (hm : ∀ v, mx = some v → (boundV v c0).gives c.ρ m p mm p)
    (hh0 : h0 ≤ mm) (hh' : (boundR hi len h0).gives c.ρ m p hh p) (hl' : (boundR lo 0 hh).gives c.ρ m p ll p) :
    ll ≤ hh ∧ hh ≤ h0 ∧ (Instr.sliceBounds b len cap L H M).run P w = .ok (ll, hh, mm) w := by
  obtain ⟨_, h3, h4⟩ := boundR_ok (P := P) (w := w) hp hhi hh'
  obtain ⟨_, h5, h6⟩ := boundR_ok (P := P) (w := w) hp hlo hl'
  refine ⟨h5, h3, ?_⟩
  unfold Instr.sliceBounds
  cases mx with
  | none =>
    have hM : M = none := hmx
    subst hM
    have := hn rfl; subst this
    rcases h4 with ⟨rfl, rfl⟩ | ⟨z, rfl, h4⟩ <;> rcases h6 with ⟨rfl, rfl⟩ | ⟨z', rfl, h6⟩
    · simp
    · simp [h6 _ _ (Nat.le_refl _)]
    · simp [h4 _ _ hh0]
    · simp [h4 _ _ hh0, h6 _ _ (Nat.le_refl _)]
  | some v =>
    obtain ⟨x, rfl, hx⟩ := hmx
    obtain ⟨_, _, h7⟩ := boundV_ok (P := P) (w := w) hp hx (hm v rfl)
    cases hi with
    | none => exact absurd h2 (by simp [has2, noneV])
    | some u =>
      rcases h4 with ⟨rfl, rfl⟩ | ⟨z, rfl, h4⟩
      · obtain ⟨_, he, _⟩ := hhi; simp at he
      · rcases h6 with ⟨rfl, rfl⟩ | ⟨z', rfl, h6⟩
        · simp [h7 _ _ hc, h4 _ _ hh0]
        · simp [h7 _ _ hc, h4 _ _ hh0, h6 _ _ (Nat.le_refl _)]

theorem bounds2_ok (hp : PcR c.ρ p) {lo hi : Option V} {L H : Option Value} (hlo : OptR c lo L) (hhi : OptR c hi H) {len cap : Nat} {f : Nat → Nat → R V} {v : V} (h : (bounds2 lo hi len cap f).gives c.ρ m p v q) :
    ∃ hh ll, (boundR hi len cap).gives c.ρ m p hh p ∧ (boundR lo 0 hh).gives c.ρ m p ll p ∧ (f ll hh).gives c.ρ m p v q := by
  unfold bounds2 at h
  obtain ⟨hh, p1, h1, h2⟩ := R.gives_bnd h
  obtain ⟨rfl, _⟩ := boundR_ok (P := default) (w := default) hp hhi h1
  obtain ⟨ll, p2, h3, h4⟩ := R.gives_bnd h2
  obtain ⟨rfl, _⟩ := boundR_ok (P := default) (w := default) hp hlo h3
  exact ⟨hh, ll, h1, h3, h4⟩

theorem mx_ok (hp : PcR c.ρ p) {mx : Option V} {M : Option Value} (hmx : OptR c mx M) {c0 mm : Nat} (h : (boundR mx c0 c0).gives c.ρ m p mm q) :
    q = p ∧ mm ≤ c0 ∧ (mx = none → mm = c0) ∧ ∀ v, mx = some v → (boundV v c0).gives c.ρ m p mm p := by
  obtain ⟨rfl, h1, h2⟩ := boundR_ok (P := default) (w := default) hp hmx h
  refine ⟨rfl, h1, fun hn => ?_, fun v hv => ?_⟩
  · subst hn
    rcases h2 with ⟨_, rfl⟩ | ⟨z, rfl, _⟩
    · rfl
    · exact absurd hmx (by simp [OptR])
  · subst hv; exact h

theorem sliceN_ok (hp : PcR c.ρ p) {lo hi mx : Option V} {L H M : Option Value} (hlo : OptR c lo L) (hhi : OptR c hi H) (hmx : OptR c mx M) {b : Bool} {sz i o len c0 cap : Nat} {v : V}
    (h2 : has2 hi mx = true) (hc : c0 ≤ cap) (hcn : mx = none → c0 = cap) (hi' : i < c.nb) (h : (sliceN sz i o len c0 lo hi mx).gives c.ρ m p v q) :
    q = p ∧ ∃ ll hh mm, (Instr.sliceBounds b len cap L H M).run P w = .ok (ll, hh, mm) w ∧ VR c v (.slice (some (if mm = ll then c.ad i o else (c.ad i o).add (ll * sz))) (hh - ll) (mm - ll)) := by
  obtain ⟨mm, p1, h3, h4⟩ := R.gives_bnd (show ((boundR mx c0 c0).bnd fun m => bounds2 lo hi len m fun j h => R.pure (V.slice i (selB (Nat.beq m j) o (Nat.add o (Nat.mul j sz))) (Nat.sub h j) (.n (Nat.sub m j)))).gives c.ρ m p v q from h)
  obtain ⟨rfl, h5, h6, h7⟩ := mx_ok hp hmx h3
  obtain ⟨hh, ll, h8, h9, h10⟩ := bounds2_ok hp hlo hhi h4
  obtain ⟨rfl, rfl⟩ := R.gives_pure h10
  obtain ⟨h11, h12, h13⟩ := bounds_ok (P := P) (w := w) hp hlo hhi hmx (b := b) (len := len) h2 hc (fun hn => (h6 hn).trans (hcn hn)) h7 (Nat.le_refl _) h8 h9
  refine ⟨rfl, ll, hh, mm, h13, VR.slice.2 ⟨hi', mm - ll, rfl, Nat.sub_le_sub_right h12 _, ?_⟩⟩
  by_cases e : mm = ll
  · rw [if_pos e, (beq_iff _ _).2 e]; rfl
  · rw [if_neg e, (beq_false _ _).2 e]; show _ = Value.slice (some (c.ad i (o + ll * sz))) _ _; rw [Cx.ad_add]; rfl

theorem sliceR_ok (hm : MemR c m w) (hp : PcR c.ρ p) {t : TypeId} {lo hi mx : Option V} {L H M : Option Value} (hlo : OptR c lo L) (hhi : OptR c hi H) (hmx : OptR c mx M) {x v : V} {X : Value} (hx : VR c x X)
    (h : (sliceR P t lo hi mx x).gives c.ρ m p v q) : q = p ∧ ∃ z, (Instr.sliceAt t X L H M).run P w = .ok z w ∧ VR c v z := by
  obtain ⟨h2, hk⟩ := R.gives_if (show (selB (has2 hi mx) (sliceX P t lo hi mx x) (R.fail "slice")).gives c.ρ m p v q from h)
  clear h
  cases x <;> try exact (R.gives_fail (s := "slice") hk).elim
  case str l =>
    obtain ⟨h3, h4⟩ := R.gives_if (show (selB (andB (isStrT P t) (noneV mx)) (sliceStr l lo hi) (R.fail "slice")).gives c.ρ m p v q from hk)
    obtain ⟨s, rfl, hs⟩ := VR.str.1 hx
    obtain ⟨h5, h6⟩ := (andB_iff).1 h3
    cases mx with
    | some _ => exact (Bool.false_ne_true h6).elim
    | none =>
      have hM : M = none := hmx
      subst hM
      obtain ⟨hh, ll, h8, h9, h10⟩ := bounds2_ok hp hlo hhi (show (bounds2 lo hi (lenL l) (lenL l) fun j h => R.opt "slice" ((takeE (Nat.sub h j) (dropN j l)).map V.str)).gives c.ρ m p v q from h4)
      obtain ⟨h11, rfl⟩ := R.gives_opt h10
      obtain ⟨r, h12, rfl⟩ := Option.map_eq_some_iff.1 h11
      obtain ⟨h13, h14⟩ := takeE_eq h12
      have hsz : lenL l = s.size := by rw [lenL_eq, ← hs.length]; simp
      rw [hsz] at h8
      obtain ⟨h15, h16, h17⟩ := bounds_ok (P := P) (w := w) hp hlo hhi hmx (b := false) (len := s.size) (cap := s.size) (c0 := s.size) (mm := s.size) h2 (Nat.le_refl _) (fun _ => rfl) (fun v hv => by simp at hv) (Nat.le_refl _) h8 h9
      refine ⟨rfl, .string (s.extract ll hh), by simp [Instr.sliceAt, Instr.slice, run_und (isStrT_iff h5), h17], VR.str.2 ⟨_, rfl, ?_⟩⟩
      rw [dropN_eq] at h13
      subst h13
      show BR c ((l.drop ll).take (hh - ll)) _
      unfold BR at *
      rw [List.map_take, List.map_drop, hs, ← List.map_drop, ← List.map_take]
      congr 1
      simp [ByteArray.data_extract]
  case slice i o len cp =>
    have h : (Option.rec (R.fail "slice") (fun a => sliceS a.2 i o len cp lo hi mx) (slcOf P t) : R V).gives c.ρ m p v q := hk
    cases ha : slcOf P t with
    | none => rw [ha] at h; exact (R.gives_fail h).elim
    | some a =>
      rw [ha] at h
      obtain ⟨ht, hsz⟩ := slcOf_some ha
      obtain ⟨hb, cap, hcap, hlen, rfl⟩ := VR.slice.1 hx
      have fin : ∀ {v : V}, (∃ ll hh mm, (Instr.sliceBounds true len cap L H M).run P w = .ok (ll, hh, mm) w ∧ VR c v (.slice (some (if mm = ll then c.ad i o else (c.ad i o).add (ll * a.2))) (hh - ll) (mm - ll))) →
          ∃ z, (Instr.sliceAt t (.slice (some (c.ad i o)) len cap) L H M).run P w = .ok z w ∧ VR c v z := by
        rintro v ⟨ll, hh, mm, hr, hv⟩
        refine ⟨_, ?_, hv⟩
        simp [Instr.sliceAt, Instr.slice, run_und ht, hr, run_size hsz]
        split <;> rfl
      cases cp with
      | n k =>
        have hk : cap = k := hcap
        subst hk
        obtain ⟨rfl, h3⟩ := sliceN_ok (P := P) (w := w) (b := true) hp hlo hhi hmx h2 (Nat.le_refl _) (fun _ => rfl) hb (show (sliceN a.2 i o len cap lo hi mx).gives c.ρ m p v q from h)
        exact ⟨rfl, fin h3⟩
      | t tk k =>
        have h : (selB (noneV mx) (sliceT a.2 i o len tk k lo hi) (sliceN a.2 i o len len lo hi mx)).gives c.ρ m p v q := h
        rcases R.gives_selB h with ⟨h3, h4⟩ | ⟨h3, h4⟩
        · cases mx with
          | some _ => exact (Bool.false_ne_true h3).elim
          | none =>
            have hM : M = none := hmx
            subst hM
            obtain ⟨hh, ll, h8, h9, h10⟩ := bounds2_ok hp hlo hhi h4
            obtain ⟨h15, h16, h17⟩ := bounds_ok (P := P) (w := w) hp hlo hhi hmx (b := true) (len := len) (cap := cap) (c0 := cap) (mm := cap) h2 (Nat.le_refl _) (fun _ => rfl) (fun v hv => by simp at hv) hlen h8 h9
            have h10' : (selB (orB (Nat.beq ll 0) (Nat.blt (Nat.add ll k) (lbTok m tk))) (T.ret (⟨.slice i (Nat.add o (Nat.mul ll a.2)) (Nat.sub hh ll) (.t tk (Nat.add k ll)), p⟩ : Rp V)) (selB (Nat.beq hh ll) (T.ret (⟨.eslice i false, p⟩ : Rp V)) (.fail "slice at the end"))).out c.ρ = some ⟨v, q⟩ := h10
            cases hq : orB (Nat.beq ll 0) (Nat.blt (Nat.add ll k) (lbTok m tk)) with
            | false =>
              rw [hq] at h10'
              have h10' : (selB (Nat.beq hh ll) (T.ret (⟨.eslice i false, p⟩ : Rp V)) (.fail "slice at the end")).out c.ρ = some ⟨v, q⟩ := h10'
              cases hq2 : Nat.beq hh ll with
              | false => rw [hq2] at h10'; simp [selB, T.out] at h10'
              | true =>
                rw [hq2] at h10'; simp only [selB, T.out, Option.some.injEq, Rp.mk.injEq] at h10'
                obtain ⟨rfl, rfl⟩ := h10'
                rw [beq_iff] at hq2
                subst hq2
                refine ⟨rfl, fin ⟨hh, hh, cap, h17, VR.eslice.2 ⟨hb, ?_⟩⟩⟩
                rw [Nat.sub_self]
                split
                · exact ⟨o, _, rfl, fun h => nomatch h⟩
                · exact ⟨_, _, by rw [Cx.ad_add], fun h => nomatch h⟩
            | true =>
              rw [hq] at h10'; simp only [selB, T.out, Option.some.injEq, Rp.mk.injEq] at h10'
              obtain ⟨rfl, rfl⟩ := h10'
              obtain ⟨hnt, hck⟩ := hcap
              have hcase : ll = 0 ∨ ll < cap := by
                rcases (orB_iff).1 hq with h5 | h5
                · exact .inl ((beq_iff _ _).1 h5)
                · right
                  rw [blt_iff] at h5
                  cases ht' : m.tok.get tk with
                  | none => unfold lbTok at h5; rw [ht'] at h5; exact absurd h5 (by simp)
                  | some n =>
                    have := (hm.tok tk n ht').2
                    unfold lbTok at h5; rw [ht'] at h5
                    have h5 : ll + k < n := h5
                    omega
              refine ⟨rfl, fin ⟨ll, hh, cap, h17, VR.slice.2 ⟨hb, cap - ll, ⟨hnt, by show cap - ll + (k + ll) = c.γ tk; omega⟩, Nat.sub_le_sub_right (Nat.le_trans h16 hlen) _, ?_⟩⟩⟩
              split
              · have : ll = 0 := by omega
                subst this; simp
              · rw [Cx.ad_add]; rfl
        · obtain ⟨rfl, h5⟩ := sliceN_ok (P := P) (w := w) (b := true) hp hlo hhi hmx h2 hlen (fun hn => by subst hn; exact (Bool.false_ne_true h3.symm).elim) hb h4
          exact ⟨rfl, fin h5⟩
  case nilSlice =>
    have h : (Option.rec (R.fail "slice") (fun _ => (boundR mx 0 0).bnd fun _ => bounds2 lo hi 0 0 fun _ _ => R.pure .nilSlice) (slcOf P t) : R V).gives c.ρ m p v q := hk
    cases ha : slcOf P t with
    | none => rw [ha] at h; exact (R.gives_fail h).elim
    | some a =>
      rw [ha] at h
      obtain ⟨ht, hsz⟩ := slcOf_some ha
      rw [VR.nilSlice] at hx; subst hx
      obtain ⟨mm, p1, h3, h4⟩ := R.gives_bnd h
      obtain ⟨rfl, h5, h6, h7⟩ := mx_ok hp hmx h3
      obtain ⟨hh, ll, h8, h9, h10⟩ := bounds2_ok hp hlo hhi h4
      obtain ⟨rfl, rfl⟩ := R.gives_pure h10
      have : mm = 0 := by omega
      subst this
      obtain ⟨h15, h16, h17⟩ := bounds_ok (P := P) (w := w) hp hlo hhi hmx (b := true) (len := 0) (cap := 0) h2 (Nat.le_refl _) h6 h7 (Nat.le_refl _) h8 h9
      have : hh = 0 := by omega
      subst this
      have : ll = 0 := by omega
      subst this
      exact ⟨rfl, .slice none 0 0, by simp [Instr.sliceAt, Instr.slice, run_und ht, h17, run_size hsz], VR.nilSlice.2 rfl⟩
  case eslice i z =>
    have h : (Option.rec (R.fail "slice") (fun _ => (boundR mx 0 0).bnd fun _ => bounds2 lo hi 0 0 fun _ _ => R.pure (.eslice i (orB z (notB (noneV mx))))) (slcOf P t) : R V).gives c.ρ m p v q := hk
    cases ha : slcOf P t with
    | none => rw [ha] at h; exact (R.gives_fail h).elim
    | some a =>
      rw [ha] at h
      obtain ⟨ht, hsz⟩ := slcOf_some ha
      obtain ⟨hb, o, cap, rfl, hzc⟩ := VR.eslice.1 hx
      obtain ⟨m0, p1, h3, h4⟩ := R.gives_bnd h
      obtain ⟨rfl, h5, h6, h7⟩ := mx_ok hp hmx h3
      obtain ⟨hh, ll, h8, h9, h10⟩ := bounds2_ok hp hlo hhi h4
      obtain ⟨rfl, rfl⟩ := R.gives_pure h10
      have : m0 = 0 := by omega
      subst this
      obtain ⟨mm, g1, g2⟩ : ∃ mm, (mx = none → mm = cap) ∧ ∀ v, mx = some v → mm = 0 := by
        cases mx with
        | none => exact ⟨cap, fun _ => rfl, fun v hv => nomatch hv⟩
        | some v => exact ⟨0, fun h => (nomatch h), fun _ _ => rfl⟩
      obtain ⟨h15, h16, h17⟩ := bounds_ok (P := P) (w := w) hp hlo hhi hmx (b := true) (len := 0) (cap := cap) (c0 := 0) (mm := mm) h2 (Nat.zero_le _) g1 (fun v hv => by rw [g2 v hv]; exact h7 v hv) (Nat.zero_le _) h8 h9
      have : hh = 0 := by omega
      subst this
      have : ll = 0 := by omega
      subst this
      refine ⟨rfl, .slice (some (c.ad i o)) 0 mm, ?_, VR.eslice.2 ⟨hb, o, mm, rfl, fun hz => ?_⟩⟩
      · have e : (c.ad i o).add 0 = c.ad i o := Cx.ad_add c i o 0
        simp [Instr.sliceAt, Instr.slice, run_und ht, h17, run_size hsz, e]
      · rcases (orB_iff).1 hz with hz1 | hz1
        · cases mx with
          | none => rw [g1 rfl]; exact hzc hz1
          | some v => exact g2 v rfl
        · cases mx with
          | none => exact nomatch hz1
          | some v => exact g2 v rfl
  case ptr i o =>
    have h : (Option.rec (R.fail "slice") (fun a => sliceN a.2.2 i o a.1 a.1 lo hi mx) (arrOf P t) : R V).gives c.ρ m p v q := hk
    cases ha : arrOf P t with
    | none => rw [ha] at h; exact (R.gives_fail h).elim
    | some a =>
      rw [ha] at h
      obtain ⟨ht, hsz⟩ := arrOf_some ha
      obtain ⟨hb, rfl⟩ := VR.ptr.1 hx
      obtain ⟨rfl, ll, hh, mm, hr, hv⟩ := sliceN_ok (P := P) (w := w) (b := false) hp hlo hhi hmx h2 (Nat.le_refl _) (fun _ => rfl) hb (show (sliceN a.2.2 i o a.1 a.1 lo hi mx).gives c.ρ m p v q from h)
      exact ⟨rfl, _, by simp [Instr.sliceAt, Instr.sureAddr, run_und ht, hr, run_size hsz], hv⟩
end ops

end Go.Sy
