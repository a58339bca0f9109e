/-
  What is proved here: the evaluator's '==' by the type, and its binary operators, do what the model's do.
  Conditions: none.
-/
import Derived.Test.YtcipfcbaclfnhaaSyEq
namespace Go.Sy

section eq
variable {P : Program} {c : Cx} {m : Mem} {w : World} {p q : Pc}

theorem eqB_eq (a b : Bool) : eqB a b = (a == b) := by cases a <;> cases b <;> rfl

theorem plain_block (hm : MemR c m w) {i : Nat} (h : plainB (m.tr.get i) = true) : ∃ cs t, w.heap[(c.β i).1]? = some (.cells cs t (0, 0)) := by
  cases hb : m.tr.get i with
  | none => rw [hb] at h; exact (Bool.false_ne_true h).elim
  | some b =>
    rw [hb] at h
    cases b with
    | cells l wr pl g =>
      obtain ⟨_, cs, t, fr, h1, _, h3, _⟩ := hm.blk i _ hb
      have : pl = true := h
      rw [h3 this] at h1
      exact ⟨cs, t, h1⟩
    | map => exact (Bool.false_ne_true h).elim
    | siter => exact (Bool.false_ne_true h).elim
    | srow => exact (Bool.false_ne_true h).elim
    | pm => exact (Bool.false_ne_true h).elim

theorem run_sameAddr_other {a b : Addr} {cs ds : Array Value} {t u : TypeId} (ha : w.heap[a.block]? = some (.cells cs t (0, 0))) (hb : w.heap[b.block]? = some (.cells ds u (0, 0))) (hne : a.block ≠ b.block) :
    (sameAddr a b).run P w = .ok false w := by
  have fa : ∀ o s, w.frozen? ⟨a.block, o, s⟩ = false := fun o s => by simp [World.frozen?, ha]
  have fb : ∀ o s, w.frozen? ⟨b.block, o, s⟩ = false := fun o s => by simp [World.frozen?, hb]
  have fa' : w.frozen? a = false := fa a.off a.spot
  have fb' : w.frozen? b = false := fb b.off b.spot
  have sa : w.shape? a.block = some (t, cs.size) := by simp [World.shape?, ha]
  have sb : w.shape? b.block = some (u, ds.size) := by simp [World.shape?, hb]
  have hne' : (a.block == b.block) = false := by simpa using hne
  simp [sameAddr, hne', noView, viewAt, mayBeOne, stringish, fa', fb', fa, fb, sa, sb]

theorem eqAddr_ok (hm : MemR c m w) (hp : PcR c.ρ p) {i o j r : Nat} {v : Bool} (h : (eqAddr i o j r).gives c.ρ m p v q) :
    q = p ∧ (sameAddr (c.ad i o) (c.ad j r)).run P w = .ok v w := by
  rcases R.gives_selB h with ⟨he, h⟩ | ⟨he, h⟩
  · obtain ⟨rfl, rfl⟩ := R.gives_pure h
    rw [beq_iff] at he; subst he
    refine ⟨rfl, ?_⟩
    have h1 : ((c.ad i o).block == (c.ad i r).block) = true := by simp [Cx.ad]
    simp only [sameAddr, h1, if_true, Sem.run_pure]
    congr 1
    rw [Bool.eq_iff_iff, beq_iff_eq, beq_iff]
    simp [Cx.ad]
  · rw [beq_false] at he
    have h : T.out c.ρ (selB (andB (plainB (m.tr.get i)) (plainB (m.tr.get j))) (T.ret ⟨false, p⟩) (T.fail "pointers") : T (Rp Bool)) = some ⟨v, q⟩ := h
    cases hc : andB (plainB (m.tr.get i)) (plainB (m.tr.get j)) <;> rw [hc] at h <;> simp [T.out] at h
    obtain ⟨rfl, rfl⟩ := h
    simp only [andB_eq, Bool.and_eq_true] at hc
    obtain ⟨cs, t, h1⟩ := plain_block hm hc.1
    obtain ⟨ds, u, h2⟩ := plain_block hm hc.2
    refine ⟨rfl, run_sameAddr_other (a := c.ad i o) (b := c.ad j r) h1 h2 ?_⟩
    have hx : ∃ b, m.tr.get i = some b := by cases hb : m.tr.get i with
      | none => rw [hb] at hc; exact (Bool.false_ne_true hc.1).elim
      | some b => exact ⟨b, rfl⟩
    have hy : ∃ b, m.tr.get j = some b := by cases hb : m.tr.get j with
      | none => rw [hb] at hc; exact (Bool.false_ne_true hc.2).elim
      | some b => exact ⟨b, rfl⟩
    obtain ⟨b, hb⟩ := hx
    obtain ⟨b', hb'⟩ := hy
    have hpl : ∀ {b : Blk}, plainB (some b) = true → b.plB = true := fun {b} h => by cases b <;> first | exact h | exact (Bool.false_ne_true h).elim
    have hlv : ∀ {b : Blk}, plainB (some b) = true → b.live c := fun {b} h => by cases b <;> first | trivial | exact (Bool.false_ne_true h).elim
    exact hm.inj i j b b' hb hb' he (by rw [hb, hb'] at hc; simp [Blk.apt, hpl hc.1, hpl hc.2]) (by rw [hb] at hc; exact hlv hc.1) (by rw [hb'] at hc; exact hlv hc.2)

theorem eqPtr_ok (hm : MemR c m w) (hp : PcR c.ρ p) {d : Nat} {t elem : TypeId} (ht : P.underlying t = some (.pointer elem)) {x y : V} {X Y : Value} {v : Bool} (hx : VR c x X) (hy : VR c y Y)
    (h : (eqPtr P elem x y).gives c.ρ m p v q) : q = p ∧ (Op.equalIn (d + 1) t X Y).run P w = .ok v w := by
  unfold eqPtr at h
  split at h
  · rw [VR.nilPtr] at hx; subst hx
    split at h
    · rw [VR.nilPtr] at hy; subst hy
      obtain ⟨rfl, rfl⟩ := R.gives_pure h
      exact ⟨rfl, by simp [Op.equalIn, run_und ht]⟩
    · obtain ⟨_, rfl⟩ := VR.ptr.1 hy
      obtain ⟨rfl, rfl⟩ := R.gives_pure h
      exact ⟨rfl, by simp [Op.equalIn, run_und ht]⟩
    · exact (R.gives_fail h).elim
  · obtain ⟨_, rfl⟩ := VR.ptr.1 hx
    split at h
    · rw [VR.nilPtr] at hy; subst hy
      obtain ⟨rfl, rfl⟩ := R.gives_pure h
      exact ⟨rfl, by simp [Op.equalIn, run_und ht]⟩
    · obtain ⟨_, rfl⟩ := VR.ptr.1 hy
      cases hs : posO (szOf P elem) <;> rw [hs] at h
      · exact (R.gives_fail h).elim
      · have ⟨n, hn⟩ : ∃ n, szOf P elem = some (n + 1) := by
          cases hz : szOf P elem with
          | none => rw [hz] at hs; exact (Bool.false_ne_true hs).elim
          | some n => cases n with
            | zero => rw [hz] at hs; exact (Bool.false_ne_true hs).elim
            | succ n => exact ⟨n, rfl⟩
        obtain ⟨rfl, h2⟩ := eqAddr_ok (P := P) hm hp h
        exact ⟨rfl, by simp [Op.equalIn, run_und ht, run_size hn, h2]⟩
    · exact (R.gives_fail h).elim
  · exact (R.gives_fail h).elim

theorem eqNil_ok {d : Nat} {t : TypeId} {x y : V} {X Y : Value} {v : Bool} (hx : VR c x X) (hy : VR c y Y)
    (ht : (∃ e, P.underlying t = some (.slice e) ∧ isSliceV x = true ∧ isSliceV y = true) ∨ (∃ k e, P.underlying t = some (.map k e) ∧ isMapV x = true ∧ isMapV y = true) ∨ (∃ a b e, P.underlying t = some (.func a b e) ∧ isFuncV x = true ∧ isFuncV y = true))
    (h : (eqNil x y).gives c.ρ m p v q) : q = p ∧ (Op.equalIn (d + 1) t X Y).run P w = .ok v w := by
  unfold eqNil at h
  rcases ht with ⟨e, ht, h1, h2⟩ | ⟨k, e, ht, h1, h2⟩ | ⟨a, b, e, ht, h1, h2⟩
  all_goals
    cases x <;> (try exact (Bool.false_ne_true h1).elim) <;> cases y <;> (try exact (Bool.false_ne_true h2).elim)
  all_goals (simp only [nilNo] at h; first | exact (R.gives_fail h).elim | (obtain ⟨rfl, rfl⟩ := R.gives_pure h))
  all_goals simp only [VR.nilSlice, VR.slice, VR.eslice, VR.nilMap, VR.map, VR.nilFunc, VR.func] at hx hy
  · subst hx hy; exact ⟨rfl, by simp [Op.equalIn, run_und ht]⟩
  · obtain ⟨_, cap, _, _, rfl⟩ := hy; subst hx; exact ⟨rfl, by simp [Op.equalIn, run_und ht]⟩
  · obtain ⟨_, o, cap, rfl, _⟩ := hy; subst hx; exact ⟨rfl, by simp [Op.equalIn, run_und ht]⟩
  · obtain ⟨_, cap, _, _, rfl⟩ := hx; subst hy; exact ⟨rfl, by simp [Op.equalIn, run_und ht]⟩
  · obtain ⟨_, o, cap, rfl, _⟩ := hx; subst hy; exact ⟨rfl, by simp [Op.equalIn, run_und ht]⟩
  · subst hx hy; exact ⟨rfl, by simp [Op.equalIn, run_und ht]⟩
  · obtain ⟨_, rfl⟩ := hy; subst hx; exact ⟨rfl, by simp [Op.equalIn, run_und ht]⟩
  · obtain ⟨_, rfl⟩ := hx; subst hy; exact ⟨rfl, by simp [Op.equalIn, run_und ht]⟩
  · obtain ⟨_, _, rfl, _⟩ := hx; subst hy; exact ⟨rfl, by simp [Op.equalIn, run_und ht]⟩
  · obtain ⟨_, _, rfl, _⟩ := hy; subst hx; exact ⟨rfl, by simp [Op.equalIn, run_und ht]⟩
  · subst hx hy; exact ⟨rfl, by simp [Op.equalIn, run_und ht]⟩

theorem eqIface_ok {n d : Nat} (hd : n ≤ d) {f : TypeId → V → V → R Bool} (hf : EqOk P c m w n f) (hp : PcR c.ρ p) {t : TypeId} {ms : Array (String × TypeId)} (ht : P.underlying t = some (.interface ms)) {x y : V} {X Y : Value} {v : Bool}
    (hx : VR c x X) (hy : VR c y Y) (h : (eqIface P f x y).gives c.ρ m p v q) : PcR c.ρ q ∧ (Op.equalIn (d + 1) t X Y).run P w = .ok v w := by
  cases x <;> try exact (R.gives_fail (s := "") h).elim
  case nilIface =>
    rw [VR.nilIface] at hx; subst hx
    cases y <;> try exact (R.gives_fail (s := "") h).elim
    case nilIface =>
      rw [VR.nilIface] at hy; subst hy
      obtain ⟨rfl, rfl⟩ := R.gives_pure (show (R.pure true).gives c.ρ m p v q from h)
      exact ⟨hp, by simp [Op.equalIn, run_und ht]⟩
    case iface u b =>
      obtain ⟨_, rfl, _⟩ := VR.iface.1 hy
      obtain ⟨rfl, rfl⟩ := R.gives_pure (show (R.pure false).gives c.ρ m p v q from h)
      exact ⟨hp, by simp [Op.equalIn, run_und ht]⟩
  case iface tx vx =>
    obtain ⟨A, rfl, rA⟩ := VR.iface.1 hx
    cases y <;> try exact (R.gives_fail (s := "") h).elim
    case nilIface =>
      rw [VR.nilIface] at hy; subst hy
      obtain ⟨rfl, rfl⟩ := R.gives_pure (show (R.pure false).gives c.ρ m p v q from h)
      exact ⟨hp, by simp [Op.equalIn, run_und ht]⟩
    case iface ty vy =>
      obtain ⟨B, rfl, rB⟩ := VR.iface.1 hy
      have h : (cond (Nat.beq tx ty) (cond (comparableT P tx) (f tx vx vy) (R.fail "not comparable")) (R.pure false)).gives c.ρ m p v q := h
      cases hb : Nat.beq tx ty <;> rw [hb] at h
      · obtain ⟨rfl, rfl⟩ := R.gives_pure (show (R.pure false).gives c.ρ m p v q from h)
        rw [beq_false] at hb
        exact ⟨hp, by simp [Op.equalIn, run_und ht, hb]⟩
      · have h5 : (cond (comparableT P tx) (f tx vx vy) (R.fail "not comparable")).gives c.ρ m p v q := h
        clear h
        rw [beq_iff] at hb; subst hb
        cases hc : comparableT P tx <;> rw [hc] at h5
        · exact (R.gives_fail h5).elim
        · have h : (f tx vx vy).gives c.ρ m p v q := h5
          have ⟨i, hi, hcm⟩ : ∃ i, P.info? tx = some i ∧ i.comparable = true := by
            unfold comparableT at hc; split at hc
            · rename_i i hi; exact ⟨i, hi, hc⟩
            · exact (Bool.false_ne_true hc).elim
          obtain ⟨h1, h2⟩ := hf _ _ _ _ _ _ _ _ hp rA rB h
          exact ⟨h1, by simp [Op.equalIn, run_und ht, run_info hi, hcm, h2 d hd]⟩

/-- '==' by the type -/
theorem eqIn_ok (hm : MemR c m w) : ∀ (n : Nat), EqOk P c m w n (eqIn P n)
  | 0 => fun _ _ _ _ _ _ _ _ _ _ _ h => (R.gives_fail h).elim
  | n + 1 => fun t x y X Y p q v hp hx hy h => by
    have ih := eqIn_ok hm n
    have h : (Option.rec (R.fail "") (fun td => eqD td P (eqIn P n) t x y) (P.underlying t) : R Bool).gives c.ρ m p v q := h
    cases ht : P.underlying t with
    | none => rw [ht] at h; exact (R.gives_fail h).elim
    | some td =>
      rw [ht] at h
      have h : (eqD td P (eqIn P n) t x y).gives c.ρ m p v q := h
      have pack : ∀ {Q : Prop}, Q ∧ (∀ d, n ≤ d → (Op.equalIn (d + 1) t X Y).run P w = .ok v w) → Q ∧ ∀ k, n + 1 ≤ k → (Op.equalIn k t X Y).run P w = .ok v w := by
        rintro Q ⟨h1, h2⟩
        exact ⟨h1, fun k hk => by obtain ⟨d, rfl⟩ : ∃ d, k = d + 1 := ⟨k - 1, by omega⟩; exact h2 d (by omega)⟩
      apply pack
      cases td with
      | bool =>
        have h : (eqBool x y).gives c.ρ m p v q := h
        unfold eqBool at h
        rcases onBool_cases x (fun a => onBool y (fun b => (decR a).bnd fun u => (decR b).bnd fun v => R.pure (eqB u v)) (R.fail "")) (R.fail "") with ⟨a, rfl, he⟩ | he <;> rw [he] at h
        · rcases onBool_cases y (fun b => (decR a).bnd fun u => (decR b).bnd fun v => R.pure (eqB u v)) (R.fail "") with ⟨b, rfl, he'⟩ | he' <;> rw [he'] at h
          · obtain ⟨u, p1, h1, h2⟩ := R.gives_bnd h
            obtain ⟨h3, h4⟩ := decR_gives hp h1
            obtain ⟨u', p2, h5, h6⟩ := R.gives_bnd h2
            obtain ⟨h7, h8⟩ := decR_gives h4 h5
            obtain ⟨rfl, rfl⟩ := R.gives_pure h6
            rw [VR.bool, h3] at hx; rw [VR.bool, h7] at hy; subst hx hy
            exact ⟨h8, fun d _ => by simp [Op.equalIn, run_und ht, eqB_eq]⟩
          · exact (R.gives_fail h).elim
        · exact (R.gives_fail h).elim
      | int k0 =>
        have h : (eqInt x y).gives c.ρ m p v q := h
        unfold eqInt at h
        rcases onInt_cases x (fun k a => onInt y (fun k' b => selB (Nat.beq (kindNo k) (kindNo k')) (decR (mkEq a b)) (R.fail "kinds")) (R.fail "")) (R.fail "") with ⟨k, a, rfl, he⟩ | he <;> rw [he] at h
        · rcases onInt_cases y (fun k' b => selB (Nat.beq (kindNo k) (kindNo k')) (decR (mkEq a b)) (R.fail "kinds")) (R.fail "") with ⟨k', b, rfl, he'⟩ | he' <;> rw [he'] at h
          · obtain ⟨h1, h2⟩ := R.gives_if h
            have := kindNo_inj h1; subst this
            obtain ⟨h3, h4⟩ := decR_gives hp h2
            rw [mkEq_den] at h3
            obtain ⟨rfl, _⟩ := VR.int.1 hx
            obtain ⟨rfl, _⟩ := VR.int.1 hy
            exact ⟨h4, fun d _ => by simp [Op.equalIn, run_und ht, h3]⟩
          · exact (R.gives_fail h).elim
        · exact (R.gives_fail h).elim
      | string =>
        have h : (eqStr x y).gives c.ρ m p v q := h
        unfold eqStr at h
        rcases onStr_cases x (fun a => onStr y (fun b => strEq a b) (R.fail "")) (R.fail "") with ⟨a, rfl, he⟩ | he <;> rw [he] at h
        · rcases onStr_cases y (fun b => strEq a b) (R.fail "") with ⟨b, rfl, he'⟩ | he' <;> rw [he'] at h
          · obtain ⟨s, rfl, hs⟩ := VR.str.1 hx
            obtain ⟨s', rfl, hs'⟩ := VR.str.1 hy
            obtain ⟨h1, rfl⟩ := strEq_ok hp hs hs' h
            exact ⟨h1, fun d _ => by rw [run_equalIn_string w d t s s' ht, ByteArray.toList_eq, ByteArray.toList_eq]⟩
          · exact (R.gives_fail h).elim
        · exact (R.gives_fail h).elim
      | pointer e =>
        exact ⟨by obtain ⟨rfl, _⟩ := eqPtr_ok (d := 0) hm hp ht hx hy h; exact hp, fun d _ => (eqPtr_ok hm hp ht hx hy h).2⟩
      | interface ms =>
        exact ⟨(eqIface_ok (Nat.le_refl n) ih hp ht hx hy h).1, fun d hd => (eqIface_ok hd ih hp ht hx hy h).2⟩
      | slice e =>
        have h : (cond (isSliceV x && isSliceV y) (eqNil x y) (R.fail "")).gives c.ρ m p v q := h
        cases hc : (isSliceV x && isSliceV y) <;> rw [hc] at h
        · exact (R.gives_fail h).elim
        · rw [Bool.and_eq_true] at hc
          exact ⟨by obtain ⟨rfl, _⟩ := eqNil_ok (d := 0) (w := w) hx hy (.inl ⟨e, ht, hc.1, hc.2⟩) h; exact hp, fun d _ => (eqNil_ok hx hy (.inl ⟨e, ht, hc.1, hc.2⟩) h).2⟩
      | map k e =>
        have h : (cond (isMapV x && isMapV y) (eqNil x y) (R.fail "")).gives c.ρ m p v q := h
        cases hc : (isMapV x && isMapV y) <;> rw [hc] at h
        · exact (R.gives_fail h).elim
        · rw [Bool.and_eq_true] at hc
          exact ⟨by obtain ⟨rfl, _⟩ := eqNil_ok (d := 0) (w := w) hx hy (.inr (.inl ⟨k, e, ht, hc.1, hc.2⟩)) h; exact hp, fun d _ => (eqNil_ok hx hy (.inr (.inl ⟨k, e, ht, hc.1, hc.2⟩)) h).2⟩
      | func a b e =>
        have h : (cond (isFuncV x && isFuncV y) (eqNil x y) (R.fail "")).gives c.ρ m p v q := h
        cases hc : (isFuncV x && isFuncV y) <;> rw [hc] at h
        · exact (R.gives_fail h).elim
        · rw [Bool.and_eq_true] at hc
          exact ⟨by obtain ⟨rfl, _⟩ := eqNil_ok (d := 0) (w := w) hx hy (.inr (.inr ⟨a, b, e, ht, hc.1, hc.2⟩)) h; exact hp, fun d _ => (eqNil_ok hx hy (.inr (.inr ⟨a, b, e, ht, hc.1, hc.2⟩)) h).2⟩
      | struct fs =>
        have h : (eqStruct P (eqIn P n) t fs x y).gives c.ρ m p v q := h
        unfold eqStruct at h
        rcases onAgg_cases x (fun xs => onAgg y (fun ys => selB (P.stoodInHeld t) (R.fail "stood in") (eqFields P (eqIn P n) xs ys fs.toList)) (R.fail "")) (R.fail "") with ⟨xs, rfl, he⟩ | he <;> rw [he] at h
        · rcases onAgg_cases y (fun ys => selB (P.stoodInHeld t) (R.fail "stood in") (eqFields P (eqIn P n) xs ys fs.toList)) (R.fail "") with ⟨ys, rfl, he'⟩ | he' <;> rw [he'] at h
          · obtain ⟨Xs, rfl, rX⟩ := VR.agg.1 hx
            obtain ⟨Ys, rfl, rY⟩ := VR.agg.1 hy
            rcases R.gives_selB h with ⟨_, h⟩ | ⟨hs, h⟩
            · exact (R.gives_fail h).elim
            · obtain ⟨h1, h2⟩ := eqFields_ok ih rX rY hp h
              have hfs : P.fieldsOf t = fs := by simp [Program.fieldsOf, ht]
              exact ⟨h1, fun d hd => by rw [run_equalIn_struct w d t Xs Ys (by rw [hfs]; exact ht) hs, hfs]; exact h2 d hd⟩
          · exact (R.gives_fail h).elim
        · exact (R.gives_fail h).elim
      | array len elem =>
        have h : (eqArr P (eqIn P n) len elem x y).gives c.ρ m p v q := h
        unfold eqArr at h
        rcases onAgg_cases x (fun xs => onAgg y (fun ys => (Option.rec (R.fail "") (fun k => eqElems P (eqIn P n) xs ys elem k len 0) (szOf P elem) : R Bool)) (R.fail "")) (R.fail "") with ⟨xs, rfl, he⟩ | he <;> rw [he] at h
        · rcases onAgg_cases y (fun ys => (Option.rec (R.fail "") (fun k => eqElems P (eqIn P n) xs ys elem k len 0) (szOf P elem) : R Bool)) (R.fail "") with ⟨ys, rfl, he'⟩ | he' <;> rw [he'] at h
          · obtain ⟨Xs, rfl, rX⟩ := VR.agg.1 hx
            obtain ⟨Ys, rfl, rY⟩ := VR.agg.1 hy
            cases hs : szOf P elem with
            | none => rw [hs] at h; exact (R.gives_fail h).elim
            | some k =>
              rw [hs] at h
              obtain ⟨h1, h2⟩ := eqElems_ok ih rX rY hp (show (eqElems P (eqIn P n) xs ys elem k len 0).gives c.ρ m p v q from h)
              exact ⟨h1, fun d hd => by rw [run_equalIn_arr d t len elem k Xs Ys ht hs]; exact h2 d hd⟩
          · exact (R.gives_fail h).elim
        · exact (R.gives_fail h).elim
      | _ => exact (R.gives_fail h).elim

theorem run_eqGuard_nil {op : BinOp} {t : TypeId} {xo yo : Operand} (hc : (isConst xo || isConst yo) = true) : (eqGuard op t xo yo .nilIface .nilIface).run P w = .ok () w := by
  cases xo <;> cases yo <;> first | exact (Bool.false_ne_true hc).elim | (cases op <;> simp [eqGuard])

theorem run_eqGuard_agg' {op : BinOp} {t : TypeId} {xo yo : Operand} {a b : Array Value} (h : P.eqGuardType P.depth t = false) : (eqGuard op t xo yo (.agg a) (.agg b)).run P w = .ok () w := by
  cases op <;> simp [eqGuard, h]

/-- the test ahead of '==' passes -/
theorem run_eqGuard_ok {op : BinOp} {t : TypeId} {xo yo : Operand} {X Y : Value} (h1 : ¬ (X = .nilIface ∧ Y = .nilIface ∧ (isConst xo || isConst yo) = false)) (h2 : ∀ a b, X = .agg a → Y = .agg b → P.eqGuardType P.depth t = false) :
    (eqGuard op t xo yo X Y).run P w = .ok () w := by
  have e1 : X = .nilIface → Y = .nilIface → (eqGuard op t xo yo X Y).run P w = .ok () w := by
    rintro rfl rfl
    refine run_eqGuard_nil ?_
    cases hc : (isConst xo || isConst yo) with
    | true => rfl
    | false => exact (h1 ⟨rfl, rfl, hc⟩).elim
  have e2 : ∀ a b, X = .agg a → Y = .agg b → (eqGuard op t xo yo X Y).run P w = .ok () w := by
    rintro a b rfl rfl
    exact run_eqGuard_agg' (h2 a b rfl rfl)
  clear h1 h2
  cases op <;> try rfl
  all_goals cases X <;> try rfl
  all_goals cases Y <;> first | rfl | exact e1 rfl rfl | exact e2 _ _ rfl rfl

/-- the binary operators -/
theorem binR_ok (hm : MemR c m w) (hp : PcR c.ρ p) {op : BinOp} {t : TypeId} {xo yo : Operand} {x y : V} {X Y : Value} {v : V} (hx : VR c x X) (hy : VR c y Y)
    (h : (binR op P t (orB (isConst xo) (isConst yo)) x y).gives c.ρ m p v q) :
    PcR c.ρ q ∧ ∃ z, (do eqGuard op t xo yo X Y; binOp op t X Y : Sem Value).run P w = .ok z w ∧ VR c v z := by
  have other : ∀ {x : V}, VR c x X → x ≠ .bad → (∀ k a, x ≠ .int k a) → (∀ l, x ≠ .str l) → (binEq x op P t (orB (isConst xo) (isConst yo)) y).gives c.ρ m p v q →
      PcR c.ρ q ∧ ∃ z, (do eqGuard op t xo yo X Y; binOp op t X Y : Sem Value).run P w = .ok z w ∧ VR c v z := by
    intro x hx hbad hint hstr h
    rcases R.gives_selB h with ⟨_, h⟩ | ⟨hg, h⟩
    · exact (R.gives_fail h).elim
    · simp only [orB_eq, andB_eq, notB_eq, Bool.or_eq_false_iff] at hg
      have hg1 : ¬ (X = .nilIface ∧ Y = .nilIface ∧ (isConst xo || isConst yo) = false) := by
        rintro ⟨rfl, rfl, hcst⟩
        have h1 : x = .nilIface := by cases x <;> (first | rfl | (exact absurd rfl hbad) | (exfalso; revert hx; unfold VR; simp))
        have h2 : y = .nilIface ∨ y = .bad := by cases y <;> (first | (left; rfl) | (right; rfl) | (exfalso; revert hy; unfold VR; simp))
        subst h1
        rcases h2 with rfl | rfl
        · rw [Bool.or_eq_false_iff] at hcst
          have := hg.1
          simp [isNilIface, hcst] at this
        · -- a value that is not known
          have : op = .eql ∨ op = .neq := by cases op <;> first | exact .inl rfl | exact .inr rfl | exact (R.gives_fail h).elim
          have hno : ∀ u, ¬ (eqIn P 10 t .nilIface .bad).gives c.ρ m p u q := by
            intro u hu
            have hu : (Option.rec (R.fail "") (fun td => eqD td P (eqIn P 9) t .nilIface .bad) (P.underlying t) : R Bool).gives c.ρ m p u q := hu
            cases ht : P.underlying t with
            | none => rw [ht] at hu; exact R.gives_fail hu
            | some td =>
              rw [ht] at hu
              cases td <;> exact R.gives_fail (s := "") hu
          rcases this with rfl | rfl
          · obtain ⟨u, _, h1⟩ := litB_gives h; exact hno u h1
          · obtain ⟨u, _, h1⟩ := litNB_gives h; exact hno u h1
      have hg2 : ∀ a b, X = .agg a → Y = .agg b → P.eqGuardType P.depth t = false ∨ y = .bad := by
        rintro a b rfl rfl
        have h1 : isAggV x = true := by cases x <;> (first | rfl | (exact absurd rfl hbad) | (exfalso; revert hx; unfold VR; simp))
        have h2 : y = .bad ∨ isAggV y = true := by cases y <;> (first | (right; rfl) | (left; rfl) | (exfalso; revert hy; unfold VR; simp))
        rcases h2 with h2 | h2
        · exact .inr h2
        · refine .inl ?_
          have := hg.2
          simp only [h1, h2, Bool.true_and, guardT] at this
          exact this
      have hop : ∀ u, (eqIn P 10 t x y).gives c.ρ m p u q → PcR c.ρ q ∧ (Op.equal t X Y).run P w = .ok u w := by
        intro u hu
        obtain ⟨h1, h2⟩ := eqIn_ok hm 10 _ _ _ _ _ _ _ _ hp hx hy hu
        exact ⟨h1, h2 10000 (by omega)⟩
      have hybad : ∀ a, X = .agg a → y = .bad → (eqIn P 10 t x y).gives c.ρ m p = (fun _ _ => False) := by
        rintro a rfl rfl
        have h1 : ∃ l, x = .agg l := by cases x <;> (first | exact ⟨_, rfl⟩ | (exact absurd rfl hbad) | (exfalso; revert hx; unfold VR; simp))
        obtain ⟨l, rfl⟩ := h1
        funext u q'
        simp only [eq_iff_iff, iff_false]
        intro hu
        have hu : (Option.rec (R.fail "") (fun td => eqD td P (eqIn P 9) t (.agg l) .bad) (P.underlying t) : R Bool).gives c.ρ m p u q' := hu
        cases ht : P.underlying t with
        | none => rw [ht] at hu; exact R.gives_fail hu
        | some td =>
          rw [ht] at hu
          cases td <;> exact R.gives_fail (s := "") hu
      have hfin : ∀ u, (eqIn P 10 t x y).gives c.ρ m p u q → (eqGuard op t xo yo X Y).run P w = .ok () w := fun u hu =>
        run_eqGuard_ok hg1 fun a b ha hb => (hg2 a b ha hb).resolve_right fun hy => by rw [hybad a ha hy] at hu; exact hu
      have hb1 : binOp .eql t X Y = (do pure (.bool (← Op.equal t X Y))) := by
        cases x <;> first
          | exact absurd rfl hbad
          | exact absurd rfl (hint _ _)
          | exact absurd rfl (hstr _)
          | (revert hx; unfold VR; rintro ⟨_, _, _, _, rfl⟩; rfl)
          | (revert hx; unfold VR; rintro ⟨_, _, _, _, _, (⟨_, rfl⟩ | ⟨_, _, rfl⟩)⟩ <;> rfl)
          | (revert hx; unfold VR; rintro ⟨_, _, _, rfl, _⟩; rfl)
          | (revert hx; unfold VR; rintro ⟨_, _, _, rfl⟩; rfl)
          | (revert hx; unfold VR; rintro ⟨_, _, rfl, _⟩; rfl)
          | (revert hx; unfold VR; rintro ⟨_, rfl⟩; rfl)
          | (revert hx; unfold VR; rintro ⟨_, rfl, _⟩; rfl)
          | (revert hx; unfold VR; rintro rfl; rfl)
      have hb2 : binOp .neq t X Y = (do pure (.bool (!(← Op.equal t X Y)))) := by
        cases x <;> first
          | exact absurd rfl hbad
          | exact absurd rfl (hint _ _)
          | exact absurd rfl (hstr _)
          | (revert hx; unfold VR; rintro ⟨_, _, _, _, rfl⟩; rfl)
          | (revert hx; unfold VR; rintro ⟨_, _, _, _, _, (⟨_, rfl⟩ | ⟨_, _, rfl⟩)⟩ <;> rfl)
          | (revert hx; unfold VR; rintro ⟨_, _, _, rfl, _⟩; rfl)
          | (revert hx; unfold VR; rintro ⟨_, _, _, rfl⟩; rfl)
          | (revert hx; unfold VR; rintro ⟨_, _, rfl, _⟩; rfl)
          | (revert hx; unfold VR; rintro ⟨_, rfl⟩; rfl)
          | (revert hx; unfold VR; rintro ⟨_, rfl, _⟩; rfl)
          | (revert hx; unfold VR; rintro rfl; rfl)
      cases op <;> try exact (R.gives_fail h).elim
      · obtain ⟨u, rfl, h1⟩ := litB_gives (show (litB (eqIn P 10 t x y)).gives c.ρ m p v q from h)
        obtain ⟨h2, h3⟩ := hop u h1
        exact ⟨h2, .bool u, by simp only [Sem.run_bind, hfin u h1, Result.andThen_ok, hb1, h3, Sem.run_pure], VR.lit⟩
      · obtain ⟨u, rfl, h1⟩ := litNB_gives (show (litNB (eqIn P 10 t x y)).gives c.ρ m p v q from h)
        obtain ⟨h2, h3⟩ := hop u h1
        exact ⟨h2, .bool (!u), by simp only [Sem.run_bind, hfin u h1, Result.andThen_ok, hb2, h3, Sem.run_pure], VR.lit⟩
  cases x with
  | int k a =>
    have h : (binInt op k a y).gives c.ρ m p v q := h
    unfold binInt at h
    obtain ⟨rfl, h0, h1⟩ := VR.int.1 hx
    have hg : (eqGuard op t xo yo (.int k (a.den c.ρ)) Y).run P w = .ok () w := run_eqGuard_ok (by rintro ⟨h, _⟩; cases h) (by rintro _ _ h; cases h)
    rcases onInt_cases y (fun yk b => selB (isShift op) (shiftR op k a b) (selB (Nat.beq (kindNo k) (kindNo yk)) (intOp op k a b) (R.fail "kinds"))) (R.fail "an operator") with ⟨yk, b, rfl, he⟩ | he <;> rw [he] at h
    · obtain ⟨rfl, _, _⟩ := VR.int.1 hy
      rcases R.gives_selB h with ⟨hs, h⟩ | ⟨_, h⟩
      · obtain ⟨h2, z, h3, h4⟩ := shiftR_ok (P := P) (w := w) (t := t) (k' := yk) hp hs h0 h1 h
        exact ⟨h2, z, by simp only [Sem.run_bind, hg, Result.andThen_ok, h3], h4⟩
      · obtain ⟨hk, h6⟩ := R.gives_if h
        have := kindNo_inj hk; subst this
        obtain ⟨h2, z, h3, h4⟩ := intOp_ok (P := P) (w := w) (t := t) hp h0 h1 h6
        exact ⟨h2, z, by simp only [Sem.run_bind, hg, Result.andThen_ok, h3], h4⟩
    · exact (R.gives_fail h).elim
  | str l =>
    have h : (binStr op l y).gives c.ρ m p v q := h
    unfold binStr at h
    obtain ⟨s, rfl, hs⟩ := VR.str.1 hx
    have hg : (eqGuard op t xo yo (.string s) Y).run P w = .ok () w := run_eqGuard_ok (by rintro ⟨h, _⟩; cases h) (by rintro _ _ h; cases h)
    rcases onStr_cases y (fun b => strOp op l b) (R.fail "an operator") with ⟨l', rfl, he⟩ | he <;> rw [he] at h
    · obtain ⟨s', rfl, hs'⟩ := VR.str.1 hy
      obtain ⟨h2, z, h3, h4⟩ := strOp_ok (P := P) (w := w) (t := t) hp hs hs' h
      exact ⟨h2, z, by simp only [Sem.run_bind, hg, Result.andThen_ok, h3], h4⟩
    · exact (R.gives_fail h).elim
  | bad => exact (R.gives_fail h).elim
  | _ => exact other hx (by simp) (by simp) (by simp) h
end eq

end Go.Sy
