/-
  What is proved here: the evaluator's lookups, assertions, lengths and built values do what the model's do.
  Conditions: none.
-/
import Derived.Test.YtcipfcbaclfnhaaSyRead3
import Derived.Test.YtcipfcbaclfnhaaSyEq2
import Derived.Laws.Tables
namespace Go.Sy

section ops
variable {P : Program} {c : Cx} {m : Mem} {w : World} {p q : Pc}

theorem run_getObj {r : Nat} {es : Array MapEntry} {k : Nat} (h : w.heap[r]? = some (.map es k)) : (getObj r).run P w = .ok (.map es k) w := by simp [getObj, Sem.run, h]

/-! ### lengths -/

theorem lenN_ok {n : Nat} {v : V} (h : (lenN n).gives c.ρ m p v q) : q = p ∧ VR c v (goInt n) := by
  obtain ⟨h1, h2⟩ := R.gives_if (show (selB (Nat.ble n 4611686018427387904) (R.pure (intN n)) (R.fail "a great length")).gives c.ρ m p v q from h)
  obtain ⟨rfl, rfl⟩ := R.gives_pure h2
  rw [ble_iff] at h1
  exact ⟨rfl, VR.intN n (by omega)⟩

theorem lenR_ok (hm : MemR c m w) {t ty : TypeId} {ts : Array TypeId} {xs : Array Value} {x v : V} {X : Value} (hx : VR c x X) (hts : ts[0]? = some t) (hxs : xs[0]? = some X) (h : (lenR P t x).gives c.ρ m p v q) :
    q = p ∧ ∃ z, (Builtin.len_ ts ty xs).run P w = .ok z w ∧ VR c v z := by
  unfold lenR at h
  cases hu : P.underlying t with
  | none => rw [hu] at h; exact (R.gives_fail h).elim
  | some d =>
    rw [hu] at h
    cases d <;> try exact (R.gives_fail (s := "len") h).elim
    case string =>
      obtain ⟨l, rfl, h1⟩ := onStr_gives (s := "len") (show (onStr x (fun l => lenN (lenL l)) (R.fail "len")).gives c.ρ m p v q from h)
      obtain ⟨rfl, h2⟩ := lenN_ok h1
      obtain ⟨s, rfl, hs⟩ := VR.str.1 hx
      have : lenL l = s.size := by rw [lenL_eq, ← hs.length]; simp
      rw [this] at h2
      exact ⟨rfl, _, by simp [Builtin.len_, hts, hxs, run_und hu], h2⟩
    case array n e =>
      obtain ⟨rfl, h2⟩ := lenN_ok (show (lenN n).gives c.ρ m p v q from h)
      exact ⟨rfl, _, by simp [Builtin.len_, hts, hxs, run_und hu], h2⟩
    case slice e =>
      have hk : (lenSliceX x).gives c.ρ m p v q := h
      clear h
      cases x <;> try exact (R.gives_fail (s := "len") hk).elim
      case nilSlice =>
        obtain ⟨rfl, rfl⟩ := R.gives_pure (show (R.pure (intN 0)).gives c.ρ m p v q from hk)
        rw [VR.nilSlice] at hx; subst hx
        exact ⟨rfl, _, by simp [Builtin.len_, hts, hxs, run_und hu], VR.intN 0 (by omega)⟩
      case eslice i z =>
        obtain ⟨rfl, rfl⟩ := R.gives_pure (show (R.pure (intN 0)).gives c.ρ m p v q from hk)
        obtain ⟨_, o, cap, rfl, _⟩ := VR.eslice.1 hx
        exact ⟨rfl, _, by simp [Builtin.len_, hts, hxs, run_und hu], VR.intN 0 (by omega)⟩
      case sarr i sz len =>
        obtain ⟨rfl, rfl⟩ := R.gives_pure (show (R.pure (V.int .i64 len)).gives c.ρ m p v q from hk)
        obtain ⟨_, n, cap, h1, h2, h3⟩ := VR.sarr.1 hx
        have hg : goInt (n : Int) = .int .i64 (n : Int) := (VR.int.1 (VR.intN (c := c) n (by omega))).1
        have hv : VR c (.int .i64 len) (.int .i64 (n : Int)) := VR.int.2 ⟨by rw [h1], by rw [h1]; simp [kMin, IntKind.signed, limN], by rw [h1]; simp [kMax, limN]; omega⟩
        rcases h3 with ⟨_, rfl⟩ | ⟨rfl, a, rfl⟩
        · exact ⟨rfl, _, by simp [Builtin.len_, hts, hxs, run_und hu, hg], hv⟩
        · exact ⟨rfl, .int .i64 0, by simp [Builtin.len_, hts, hxs, run_und hu]; exact hg, hv⟩
      case slice i o n cp =>
        obtain ⟨rfl, h2⟩ := lenN_ok (show (lenN n).gives c.ρ m p v q from hk)
        obtain ⟨_, cap, _, _, rfl⟩ := VR.slice.1 hx
        exact ⟨rfl, _, by simp [Builtin.len_, hts, hxs, run_und hu], h2⟩
    case map k e =>
      have hk : (lenMapX x).gives c.ρ m p v q := h
      clear h
      cases x <;> try exact (R.gives_fail (s := "len") hk).elim
      case nilMap =>
        obtain ⟨rfl, rfl⟩ := R.gives_pure (show (R.pure (intN 0)).gives c.ρ m p v q from hk)
        rw [VR.nilMap] at hx; subst hx
        exact ⟨rfl, _, by simp [Builtin.len_, hts, hxs, run_und hu], VR.intN 0 (by omega)⟩
      case map i =>
        have hk : (onPm (m.tr.get i) (fun es _ => lenN (lenL es) m p) (onMapB (m.tr.get i) (fun es _ _ => lenN (lenL es) m p) (.fail "len no map"))).out c.ρ = some ⟨v, q⟩ := hk
        rcases onPm_cases (b := m.tr.get i) (fun es _ => lenN (lenL es) m p) (onMapB (m.tr.get i) (fun es _ _ => lenN (lenL es) m p) (.fail "len no map")) with ⟨es, wr, hb, he⟩ | he <;> rw [he] at hk
        · obtain ⟨rfl, h2⟩ := lenN_ok (show (lenN (lenL es)).gives c.ρ m p v q from hk)
          obtain ⟨_, es', kk, h3, h4⟩ := hm.blk i _ hb
          obtain ⟨_, rfl⟩ := VR.map.1 hx
          have : lenL es = es'.size := by rw [lenL_eq, ← h4.length]; simp
          rw [this] at h2
          have hg : (getObj (c.β i).1).run P w = .ok (.map es' kk) w := run_getObj h3
          exact ⟨rfl, _, by simp [Builtin.len_, hts, hxs, run_und hu, hg], h2⟩
        obtain ⟨es, kk, wr, hb, h1⟩ := onMapB_gives hk
        obtain ⟨rfl, h2⟩ := lenN_ok (show (lenN (lenL es)).gives c.ρ m p v q from h1)
        obtain ⟨_, es', h3, h4⟩ := hm.blk i _ hb
        obtain ⟨_, rfl⟩ := VR.map.1 hx
        have : lenL es = es'.size := by rw [lenL_eq, ← h4.1]; simp
        rw [this] at h2
        have hg : (getObj (c.β i).1).run P w = .ok (.map es' kk) w := run_getObj h3
        exact ⟨rfl, _, by simp [Builtin.len_, hts, hxs, run_und hu, hg], h2⟩

theorem capR_ok {t ty : TypeId} {ts : Array TypeId} {xs : Array Value} {x v : V} {X : Value} (hx : VR c x X) (hts : ts[0]? = some t) (hxs : xs[0]? = some X) (h : (capR P t x).gives c.ρ m p v q) :
    q = p ∧ ∃ z, (Builtin.cap_ ts ty xs).run P w = .ok z w ∧ VR c v z := by
  unfold capR at h
  cases hu : P.underlying t with
  | none => rw [hu] at h; exact (R.gives_fail h).elim
  | some d =>
    rw [hu] at h
    cases d <;> try exact (R.gives_fail (s := "cap") h).elim
    case array n e =>
      obtain ⟨rfl, h2⟩ := lenN_ok (show (lenN n).gives c.ρ m p v q from h)
      exact ⟨rfl, _, by simp [Builtin.cap_, hts, hxs, run_und hu], h2⟩
    case slice e =>
      have hk : (capX x).gives c.ρ m p v q := h
      clear h
      cases x <;> try exact (R.gives_fail (s := "cap") hk).elim
      case nilSlice =>
        obtain ⟨rfl, rfl⟩ := R.gives_pure (show (R.pure (intN 0)).gives c.ρ m p v q from hk)
        rw [VR.nilSlice] at hx; subst hx
        exact ⟨rfl, _, by simp [Builtin.cap_, hts, hxs, run_und hu], VR.intN 0 (by omega)⟩
      case eslice i z =>
        obtain ⟨hz, h1⟩ := R.gives_if (show (selB z (R.pure (intN 0)) (R.fail "cap not known")).gives c.ρ m p v q from hk)
        obtain ⟨rfl, rfl⟩ := R.gives_pure h1
        obtain ⟨_, o, cap, rfl, hc⟩ := VR.eslice.1 hx
        have := hc hz
        subst this
        exact ⟨rfl, _, by simp [Builtin.cap_, hts, hxs, run_und hu], VR.intN 0 (by omega)⟩
      case slice i o n cp =>
        cases cp with
        | t => exact (R.gives_fail (s := "cap not known") hk).elim
        | n k =>
          obtain ⟨rfl, h2⟩ := lenN_ok (show (lenN k).gives c.ρ m p v q from hk)
          obtain ⟨_, cap, hc, _, rfl⟩ := VR.slice.1 hx
          have hc : cap = k := hc
          subst hc
          exact ⟨rfl, _, by simp [Builtin.cap_, hts, hxs, run_und hu], h2⟩

/-! ### lookups -/

theorem mapOf_some {t : TypeId} {a : TypeId × TypeId} (h : mapOf P t = some a) : P.underlying t = some (.map a.1 a.2) ∧ keyOK P a.1 = true := by
  unfold mapOf at h; split at h
  · rename_i k e h'
    cases hk : keyOK P k <;> rw [hk] at h
    · simp at h
    · simp at h; subst h; exact ⟨h', hk⟩
  · simp at h

theorem plainK_some {t : TypeId} (h : plainK P t = true) : ∃ d, P.underlying t = some d ∧ ((∃ k, d = .int k) ∨ d = .string ∨ d = .bool) := by
  unfold plainK at h; split at h
  · exact ⟨_, by assumption, .inl ⟨_, rfl⟩⟩
  · exact ⟨_, by assumption, .inr (.inl rfl)⟩
  · exact ⟨_, by assumption, .inr (.inr rfl)⟩
  · simp at h

theorem keyArr_some {t : TypeId} {a : Nat × TypeId} (h : keyArr P t = some a) : P.underlying t = some (.array a.1 a.2) ∧ (∃ k, P.underlying a.2 = some (.int k)) ∧ szOf P a.2 = some 1 := by
  unfold keyArr at h; split at h
  · rename_i n e h'
    split at h
    · rename_i k h1 h2
      obtain rfl := Option.some.inj h
      exact ⟨h', ⟨k, h1⟩, h2⟩
    · exact nomatch h
  · exact nomatch h

theorem plain_noArr {t : TypeId} (h : plainK P t = true) : keyArr P t = none := by
  obtain ⟨d, hd, h1⟩ := plainK_some h
  unfold keyArr
  rw [hd]
  rcases h1 with ⟨k, rfl⟩ | rfl | rfl <;> rfl

theorem keyOK_cases {t : TypeId} (h : keyOK P t = true) : plainK P t = true ∨ ∃ a, keyArr P t = some a := by
  unfold keyOK at h
  rw [Bool.or_eq_true] at h
  rcases h with h | h
  · exact .inl h
  · exact .inr (Option.isSome_iff_exists.1 h)

theorem checkKeys_run {e : Bool} {n el : Nat} {kk : IntKind} (hel : P.underlying el = some (.int kk)) (hsz : szOf P el = some 1) {xs : Array Value} : ∀ {l : List Nat}, (∀ i ∈ l, ∃ x, (part el xs (i * 1)).run P w = .ok x w) →
    (forIn l PUnit.unit fun i _ => (do let x ← sizeOf el; let y ← part el xs (i * x); Instr.checkKey e (n + 1) el y; pure (ForInStep.yield PUnit.unit) : Sem (ForInStep PUnit))).run P w = .ok () w
  | [], _ => by simp
  | i :: l, h => by
    obtain ⟨x, hx⟩ := h i (List.mem_cons_self ..)
    have hck : (Instr.checkKey e (n + 1) el x).run P w = .ok () w := by
      unfold Instr.checkKey
      rw [Sem.run_bind, run_und hel, Result.andThen_ok]
      rfl
    have ih := checkKeys_run (e := e) (n := n) hel hsz (xs := xs) (l := l) fun j hj => h j (List.mem_cons_of_mem _ hj)
    simp only [List.forIn_cons, Sem.run_bind, run_size hsz, Result.andThen_ok, hx, hck, Sem.run_pure]
    exact ih

theorem checkKey_ok {t : TypeId} (h : keyOK P t = true) {k : V} {K : Value} (hk : VR c k K) (hf : keyFit P t k = true) (e : Bool) : (Instr.checkKey e 10000 t K).run P w = .ok () w := by
  rcases keyOK_cases h with hpl | ⟨a, ha⟩
  · obtain ⟨d, hu, hd⟩ := plainK_some hpl
    unfold Instr.checkKey
    rw [Sem.run_bind, run_und hu, Result.andThen_ok]
    rcases hd with ⟨k, rfl⟩ | rfl | rfl <;> simp
  · obtain ⟨hu, ⟨kk, hel⟩, hsz⟩ := keyArr_some ha
    have hf : (Option.rec true (fun a => onAgg k (fun l => Nat.beq (lenL l) a.1) false) (keyArr P t) : Bool) = true := hf
    rw [ha] at hf
    rcases onAgg_cases k (fun l => Nat.beq (lenL l) a.1) false with ⟨l, rfl, he⟩ | he
    · have hf : Nat.beq (lenL l) a.1 = true := hf
      rw [beq_iff, lenL_eq] at hf
      obtain ⟨xs, rfl, hl⟩ := VR.agg.1 hk
      unfold Instr.checkKey
      simp only [Sem.run_bind, run_und hu, Result.andThen_ok, Std.Legacy.Range.forIn_eq_forIn_range', Std.Legacy.Range.size, Nat.sub_zero, Nat.add_sub_cancel, Nat.div_one]
      rw [checkKeys_run (n := 9998) (xs := xs) (l := List.range' 0 a.1) (e := e) hel hsz ?_]
      · rfl
      intro i hi
      have hi : i < a.1 := by simpa using hi
      have hag : aggSz P a.2 = some none := by simp [aggSz, isAggT, hel, hsz, aggD]
      obtain ⟨x, hx, _⟩ := partV_ok (w := w) (P := P) (t := a.2) (off := i * 1) (v := l[i]) hl (by
        unfold partV
        rw [hag]
        show nth (i * 1) l = some l[i]
        rw [Nat.mul_one, nth_eq]
        exact List.getElem?_eq_getElem (by omega))
      exact ⟨x, hx⟩
    · have hf : onAgg k (fun l => Nat.beq (lenL l) a.1) false = true := hf
      rw [he] at hf; exact nomatch hf

theorem keyEq_ok (hp : PcR c.ρ p) {t : TypeId} {d : TypeDesc} (hu : P.underlying t = some d) {x y : V} {X Y : Value} {v : Bool} (hx : VR c x X) (hy : VR c y Y) (h : (keyEq0 P t x y).gives c.ρ m p v q) :
    PcR c.ρ q ∧ Instr.sameNow d X Y = some v ∧ (v = true → Instr.sameBits 10000 Y X = true) := by
  unfold keyEq0 at h
  rw [hu] at h
  cases d <;> try exact (R.gives_fail (s := "keys") h).elim
  case bool =>
    obtain ⟨a, rfl, h1⟩ := onBool_gives (s := "") (show (onBool x (fun a => onBool y (fun b => (decR a).bnd fun u => (decR b).bnd fun v => R.pure (eqB u v)) (R.fail "")) (R.fail "")).gives c.ρ m p v q from h)
    obtain ⟨b, rfl, h2⟩ := onBool_gives h1
    obtain ⟨u, p1, h3, h4⟩ := R.gives_bnd h2
    obtain ⟨h5, h6⟩ := decR_gives hp h3
    obtain ⟨u', p2, h7, h8⟩ := R.gives_bnd h4
    obtain ⟨h9, h10⟩ := decR_gives h6 h7
    obtain ⟨rfl, rfl⟩ := R.gives_pure h8
    rw [VR.bool] at hx hy; subst hx hy
    rw [h5, h9]
    refine ⟨h10, ?_, ?_⟩
    · cases u <;> cases u' <;> rfl
    · cases u <;> cases u' <;> simp [eqB, notB, Instr.sameBits]
  case int kk =>
    obtain ⟨k, a, rfl, h1⟩ := onInt_gives (s := "") (show (onInt x (fun k a => onInt y (fun k' b => selB (Nat.beq (kindNo k) (kindNo k')) (decR (mkEq a b)) (R.fail "kinds")) (R.fail "")) (R.fail "")).gives c.ρ m p v q from h)
    obtain ⟨k', b, rfl, h2⟩ := onInt_gives h1
    obtain ⟨h3, h4⟩ := R.gives_if h2
    obtain ⟨h5, h6⟩ := decR_gives hp h4
    have := kindNo_inj h3; subst this
    rw [mkEq_den] at h5
    obtain ⟨rfl, _⟩ := VR.int.1 hx
    obtain ⟨rfl, _⟩ := VR.int.1 hy
    refine ⟨h6, by simp [Instr.sameNow, h5], fun hv => ?_⟩
    rw [hv] at h5
    have h5 : a.den c.ρ = b.den c.ρ := by simpa using h5
    simp [Instr.sameBits, h5]
  case string =>
    obtain ⟨a, rfl, h1⟩ := onStr_gives (s := "") (show (onStr x (fun a => onStr y (fun b => strEq a b) (R.fail "")) (R.fail "")).gives c.ρ m p v q from h)
    obtain ⟨b, rfl, h2⟩ := onStr_gives h1
    obtain ⟨s, rfl, hs⟩ := VR.str.1 hx
    obtain ⟨s', rfl, hs'⟩ := VR.str.1 hy
    obtain ⟨h3, h4⟩ := strEq_ok hp hs hs' h2
    refine ⟨h3, ?_, fun hv => ?_⟩
    · show some (s == s') = some v
      rw [beq_toListBytes, ByteArray.toList_eq, ByteArray.toList_eq, h4]
    · rw [hv] at h4
      have : s.data.toList = s'.data.toList := by simpa using h4.symm
      show (s' == s) = true
      rw [beq_toListBytes, ByteArray.toList_eq, ByteArray.toList_eq, this]; simp

/-- what a search found -/
def FoundR (pk : Bool) (es : List (V × V × Nat)) (es' : List MapEntry) (k : Value) (n : Nat) : Option (Nat × V) → Option (Nat × Value) → Prop
  | none, r => r = none
  | some a, r => ∃ (j : Nat) (e : V × V × Nat) (e' : MapEntry), a = (n + j, e.2.1) ∧ es[j]? = some e ∧ es'[j]? = some e' ∧ r = some (n + j, e'.val) ∧ (pk = true → Instr.sameBits 10000 e'.key k = true)

theorem FoundR.next {pk : Bool} {e : V × V × Nat} {e' : MapEntry} {es : List (V × V × Nat)} {es' : List MapEntry} {K : Value} {n : Nat} {r : Option (Nat × V)} {r' : Option (Nat × Value)} (h : FoundR pk es es' K (n + 1) r r') : FoundR pk (e :: es) (e' :: es') K n r r' := by
  cases r with
  | none => exact h
  | some a =>
    obtain ⟨j, u, u', rfl, b1, b2, rfl, b3⟩ := h
    exact ⟨j + 1, u, u', by simp; omega, by simpa using b1, by simpa using b2, by simp; omega, b3⟩

theorem EsR.uncons {e : V × V × Nat} {e' : MapEntry} {es : List (V × V × Nat)} {es' : List MapEntry} (he : EsR c (e :: es) (e' :: es')) : EsR c es es' ∧ VR c e.1 e'.key := by
  obtain ⟨e1, h1, h2, _⟩ := he.2 0 e (by simp)
  simp at h1; subst h1
  exact ⟨⟨by simpa using he.1, fun j u hu => by simpa using he.2 (j + 1) u (by simpa using hu)⟩, h2⟩

theorem findKey_ok {t : TypeId} {d : TypeDesc} (hu : P.underlying t = some d) (hna : keyArr P t = none) {k : V} {K : Value} (hk : VR c k K) : ∀ {es : List (V × V × Nat)} {es' : List MapEntry} {n : Nat} {p : Pc} {r : Option (Nat × V)}, PcR c.ρ p → EsR c es es' → (findKey P t k es n).gives c.ρ m p r q →
    PcR c.ρ q ∧ ∃ r', Instr.findNow d K es' n = some r' ∧ FoundR true es es' K n r r'
  | [], es', n, p, r, hp, he, h => by
    obtain ⟨rfl, rfl⟩ := R.gives_pure (show (R.pure none).gives c.ρ m p r q from h)
    have : es' = [] := List.eq_nil_of_length_eq_zero he.1
    subst this
    exact ⟨hp, none, rfl, rfl⟩
  | e :: es, es', n, p, r, hp, he, h => by
    cases es' with
    | nil => exact absurd he.1 (by simp)
    | cons e' es' =>
      obtain ⟨he', h2⟩ := he.uncons
      obtain ⟨v, p1, h5, h6⟩ := R.gives_bnd (show ((keyEq P t k e.1).bnd fun v => (Bool.rec (findKey P t k es (Nat.succ n)) (R.pure (some (n, e.2.1))) v : R (Option (Nat × V)))).gives c.ρ m p r q from h)
      have h5 : (keyEq0 P t k e.1).gives c.ρ m p v p1 := by
        have h5 : ((Option.rec (keyEq0 P t) (fun _ => eqIn P 10 t) (keyArr P t) : V → V → R Bool) k e.1).gives c.ρ m p v p1 := h5
        rw [hna] at h5; exact h5
      obtain ⟨h7, h8, h9⟩ := keyEq_ok hp hu hk h2 h5
      cases v
      · obtain ⟨h10, r', h11, h12⟩ := findKey_ok hu hna hk h7 he' (show (findKey P t k es (Nat.succ n)).gives c.ρ m p1 r q from h6)
        exact ⟨h10, r', by simp [Instr.findNow, h8]; exact h11, h12.next⟩
      · obtain ⟨rfl, rfl⟩ := R.gives_pure (show (R.pure (some (n, e.2.1))).gives c.ρ m p1 r q from h6)
        exact ⟨h7, some (n, e'.val), by simp [Instr.findNow, h8], 0, e, e', rfl, by simp, by simp, rfl, fun _ => h9 rfl⟩

theorem findAsk_ok (hm : MemR c m w) {t : TypeId} {a : Nat × TypeId} (ha : keyArr P t = some a) {k : V} {K : Value} (hk : VR c k K) : ∀ {es : List (V × V × Nat)} {es' : List MapEntry} {n : Nat} {p : Pc} {r : Option (Nat × V)}, PcR c.ρ p → EsR c es es' → (findKey P t k es n).gives c.ρ m p r q →
    PcR c.ρ q ∧ ∃ r', (Instr.findAsking t K es' n).run P w = .ok r' w ∧ FoundR false es es' K n r r'
  | [], es', n, p, r, hp, he, h => by
    obtain ⟨rfl, rfl⟩ := R.gives_pure (show (R.pure none).gives c.ρ m p r q from h)
    have : es' = [] := List.eq_nil_of_length_eq_zero he.1
    subst this
    exact ⟨hp, none, by simp [Instr.findAsking], rfl⟩
  | e :: es, es', n, p, r, hp, he, h => by
    cases es' with
    | nil => exact absurd he.1 (by simp)
    | cons e' es' =>
      obtain ⟨he', h2⟩ := he.uncons
      obtain ⟨v, p1, h5, h6⟩ := R.gives_bnd (show ((keyEq P t k e.1).bnd fun v => (Bool.rec (findKey P t k es (Nat.succ n)) (R.pure (some (n, e.2.1))) v : R (Option (Nat × V)))).gives c.ρ m p r q from h)
      have h5 : (eqIn P 10 t k e.1).gives c.ρ m p v p1 := by
        have h5 : ((Option.rec (keyEq0 P t) (fun _ => eqIn P 10 t) (keyArr P t) : V → V → R Bool) k e.1).gives c.ρ m p v p1 := h5
        rw [ha] at h5; exact h5
      obtain ⟨h7, h8⟩ := eqIn_ok hm 10 t k e.1 K e'.key p p1 v hp hk h2 h5
      have h9 : (Op.equal t K e'.key).run P w = .ok v w := h8 _ (by decide)
      cases v
      · obtain ⟨h10, r', h11, h12⟩ := findAsk_ok hm ha hk h7 he' (show (findKey P t k es (Nat.succ n)).gives c.ρ m p1 r q from h6)
        exact ⟨h10, r', by simp [Instr.findAsking, h9]; exact h11, h12.next⟩
      · obtain ⟨rfl, rfl⟩ := R.gives_pure (show (R.pure (some (n, e.2.1))).gives c.ρ m p1 r q from h6)
        exact ⟨h7, some (n, e'.val), by simp [Instr.findAsking, h9], 0, e, e', rfl, by simp, by simp, rfl, fun hb => nomatch hb⟩

theorem run_findKey {t : TypeId} {d : TypeDesc} (hu : P.underlying t = some d) {K : Value} {es : List MapEntry} {r : Option (Nat × Value)} (h : Instr.findNow d K es 0 = some r) : (Instr.findKey t K es).run P w = .ok r w := by
  simp [Instr.findKey, run_und hu, h]

theorem run_findArr {t : TypeId} {n el : Nat} (hu : P.underlying t = some (.array n el)) {K : Value} {es : List MapEntry} : (Instr.findKey t K es).run P w = (Instr.findAsking t K es).run P w := by
  cases es with
  | nil => simp [Instr.findKey, Instr.findNow, Instr.findAsking, run_und hu]
  | cons e es => simp [Instr.findKey, Instr.findNow, Instr.sameNow, run_und hu]

/-- the search for a key -/
theorem findAll_ok (hm : MemR c m w) (hp : PcR c.ρ p) {t : TypeId} (ht : keyOK P t = true) {k : V} {K : Value} (hk : VR c k K) {es : List (V × V × Nat)} {es' : List MapEntry} {r : Option (Nat × V)} (he : EsR c es es') (h : (findKey P t k es 0).gives c.ρ m p r q) :
    PcR c.ρ q ∧ ∃ r', (Instr.findKey t K es').run P w = .ok r' w ∧ FoundR (plainK P t) es es' K 0 r r' := by
  cases hpl : plainK P t with
  | true =>
    obtain ⟨d, hd, _⟩ := plainK_some hpl
    obtain ⟨h1, r', h2, h3⟩ := findKey_ok hd (plain_noArr hpl) hk hp he h
    exact ⟨h1, r', run_findKey hd h2, h3⟩
  | false =>
    rcases keyOK_cases ht with h0 | ⟨a, ha⟩
    · rw [hpl] at h0; exact nomatch h0
    · obtain ⟨h1, r', h2, h3⟩ := findAsk_ok hm ha hk hp he h
      exact ⟨h1, r', by rw [run_findArr (keyArr_some ha).1]; exact h2, h3⟩

theorem FoundR.val {pk : Bool} {es : List (V × V × Nat)} {es' : List MapEntry} {k : Value} {a : Nat × V} {r : Option (Nat × Value)} (he : EsR c es es') (h : FoundR pk es es' k 0 (some a) r) : ∃ x, r = some (a.1, x) ∧ VR c a.2 x := by
  obtain ⟨j, e, e', rfl, h1, h2, rfl, _⟩ := h
  obtain ⟨e1, h3, _, h4, _⟩ := he.2 j e h1
  rw [h2] at h3; simp at h3; subst h3
  exact ⟨e'.val, rfl, h4⟩

theorem okV_ok {ok is : Bool} {x v : V} {X : Value} (hx : VR c x X) (h : (okV ok x is).gives c.ρ m p v q) : q = p ∧ VR c v (if ok then .tuple #[X, .bool is] else X) := by
  obtain ⟨rfl, rfl⟩ := R.gives_pure (show (R.pure (selB ok (.tuple [x, .bool (.lit is)]) x)).gives c.ρ m p v q from h)
  cases ok
  · exact ⟨rfl, hx⟩
  · exact ⟨rfl, VR.tuple.2 ⟨_, rfl, VRs.cons hx (VRs.cons VR.lit VRs.nil)⟩⟩

/-- what the model says of two keys -/
def cmpK (P : Program) (kt : TypeId) (w : World) (A B : Value) (v : Bool) : Prop :=
  (∃ d, P.underlying kt = some d ∧ keyArr P kt = none ∧ Instr.sameNow d A B = some v) ∨ ((keyArr P kt).isSome = true ∧ (Op.equal kt A B).run P w = .ok v w)

theorem cmpK.one {kt : TypeId} {A B : Value} {v v' : Bool} (h : cmpK P kt w A B v) (h' : cmpK P kt w A B v') : v = v' := by
  rcases h with ⟨d, h1, h2, h3⟩ | ⟨h1, h2⟩ <;> rcases h' with ⟨d', k1, k2, k3⟩ | ⟨k1, k2⟩
  · rw [h1] at k1; obtain rfl := Option.some.inj k1
    rw [h3] at k3; exact Option.some.inj k3
  · rw [h2] at k1; exact nomatch k1
  · rw [k2] at h1; exact nomatch h1
  · rw [h2] at k2; simpa using k2

theorem cmpK_of (hm : MemR c m w) (hp : PcR c.ρ p) {kt : TypeId} (ht : keyOK P kt = true) {k e : V} {K E : Value} {v : Bool} (hk : VR c k K) (he : VR c e E) (h : (keyEq P kt k e).gives c.ρ m p v q) : PcR c.ρ q ∧ cmpK P kt w K E v := by
  have h : ((Option.rec (keyEq0 P kt) (fun _ => eqIn P 10 kt) (keyArr P kt) : V → V → R Bool) k e).gives c.ρ m p v q := h
  cases hpl : plainK P kt with
  | true =>
    obtain ⟨d, hd, _⟩ := plainK_some hpl
    have hna := plain_noArr hpl
    rw [hna] at h
    obtain ⟨h7, h8, _⟩ := keyEq_ok hp hd hk he (show (keyEq0 P kt k e).gives c.ρ m p v q from h)
    exact ⟨h7, .inl ⟨d, hd, hna, h8⟩⟩
  | false =>
    rcases keyOK_cases ht with h0 | ⟨a, ha⟩
    · rw [hpl] at h0; exact nomatch h0
    · rw [ha] at h
      obtain ⟨h7, h8⟩ := eqIn_ok hm 10 kt k e K E p q v hp hk he (show (eqIn P 10 kt k e).gives c.ρ m p v q from h)
      exact ⟨h7, .inr ⟨by rw [ha]; rfl, h8 _ (by decide)⟩⟩

theorem findNow_cmp {d : TypeDesc} {K : Value} : ∀ {es : List MapEntry} {n : Nat}, (∀ e ∈ es, ∃ v, Instr.sameNow d K e.key = some v) →
    ∃ r, Instr.findNow d K es n = some r ∧ (r = none ∧ (∀ e ∈ es, Instr.sameNow d K e.key = some false) ∨ ∃ i e, e ∈ es ∧ Instr.sameNow d K e.key = some true ∧ r = some (i, e.val))
  | [], n, _ => ⟨none, rfl, .inl ⟨rfl, fun _ h => (nomatch h)⟩⟩
  | e :: es, n, h => by
    obtain ⟨v, hv⟩ := h e (.head _)
    cases v with
    | true => exact ⟨some (n, e.val), by simp [Instr.findNow, hv], .inr ⟨n, e, .head _, hv, rfl⟩⟩
    | false =>
      obtain ⟨r, h1, h2⟩ := findNow_cmp (es := es) (n := n + 1) fun x hx => h x (.tail _ hx)
      refine ⟨r, by simp [Instr.findNow, hv, h1], ?_⟩
      rcases h2 with ⟨h2, h3⟩ | ⟨i, x, h2, h3, h4⟩
      · refine .inl ⟨h2, fun x hx => ?_⟩
        cases hx with
        | head => exact hv
        | tail _ hx => exact h3 x hx
      · exact .inr ⟨i, x, .tail _ h2, h3, h4⟩

theorem findAsk_cmp {t : TypeId} {K : Value} : ∀ {es : List MapEntry} {n : Nat}, (∀ e ∈ es, ∃ v, (Op.equal t K e.key).run P w = .ok v w) →
    ∃ r, (Instr.findAsking t K es n).run P w = .ok r w ∧ (r = none ∧ (∀ e ∈ es, (Op.equal t K e.key).run P w = .ok false w) ∨ ∃ i e, e ∈ es ∧ (Op.equal t K e.key).run P w = .ok true w ∧ r = some (i, e.val))
  | [], n, _ => ⟨none, by simp [Instr.findAsking], .inl ⟨rfl, fun _ h => (nomatch h)⟩⟩
  | e :: es, n, h => by
    obtain ⟨v, hv⟩ := h e (.head _)
    cases v with
    | true => exact ⟨some (n, e.val), by simp [Instr.findAsking, hv], .inr ⟨n, e, .head _, hv, rfl⟩⟩
    | false =>
      obtain ⟨r, h1, h2⟩ := findAsk_cmp (es := es) (n := n + 1) fun x hx => h x (.tail _ hx)
      refine ⟨r, by simp [Instr.findAsking, hv, h1], ?_⟩
      rcases h2 with ⟨h2, h3⟩ | ⟨i, x, h2, h3, h4⟩
      · refine .inl ⟨h2, fun x hx => ?_⟩
        cases hx with
        | head => exact hv
        | tail _ hx => exact h3 x hx
      · exact .inr ⟨i, x, .tail _ h2, h3, h4⟩

/-- the search of a key, where what the model says of all keys is known -/
theorem find_cmp {kt : TypeId} (ht : keyOK P kt = true) {K : Value} {es : List MapEntry} (h : ∀ e ∈ es, ∃ v, cmpK P kt w K e.key v) :
    ∃ r, (Instr.findKey kt K es).run P w = .ok r w ∧ (r = none ∧ (∀ e ∈ es, cmpK P kt w K e.key false) ∨ ∃ i e, e ∈ es ∧ cmpK P kt w K e.key true ∧ r = some (i, e.val)) := by
  cases hpl : plainK P kt with
  | true =>
    obtain ⟨d, hd, _⟩ := plainK_some hpl
    have hna := plain_noArr hpl
    have h' : ∀ e ∈ es, ∃ v, Instr.sameNow d K e.key = some v := fun e he => by
      obtain ⟨v, h1⟩ := h e he
      rcases h1 with ⟨d', h1, _, h3⟩ | ⟨h1, _⟩
      · rw [hd] at h1; obtain rfl := Option.some.inj h1; exact ⟨v, h3⟩
      · rw [hna] at h1; exact nomatch h1
    obtain ⟨r, h1, h2⟩ := findNow_cmp (n := 0) h'
    refine ⟨r, run_findKey hd h1, ?_⟩
    rcases h2 with ⟨h2, h3⟩ | ⟨i, x, h2, h3, h4⟩
    · exact .inl ⟨h2, fun e he => .inl ⟨d, hd, hna, h3 e he⟩⟩
    · exact .inr ⟨i, x, h2, .inl ⟨d, hd, hna, h3⟩, h4⟩
  | false =>
    rcases keyOK_cases ht with h0 | ⟨a, ha⟩
    · rw [hpl] at h0; exact nomatch h0
    · have h' : ∀ e ∈ es, ∃ v, (Op.equal kt K e.key).run P w = .ok v w := fun e he => by
        obtain ⟨v, h1⟩ := h e he
        rcases h1 with ⟨d', _, h1, _⟩ | ⟨_, h1⟩
        · rw [ha] at h1; exact nomatch h1
        · exact ⟨v, h1⟩
      obtain ⟨r, h1, h2⟩ := findAsk_cmp (n := 0) h'
      have hs : (keyArr P kt).isSome = true := by rw [ha]; rfl
      refine ⟨r, by rw [run_findArr (keyArr_some ha).1]; exact h1, ?_⟩
      rcases h2 with ⟨h2, h3⟩ | ⟨i, x, h2, h3, h4⟩
      · exact .inl ⟨h2, fun e he => .inr ⟨hs, h3 e he⟩⟩
      · exact .inr ⟨i, x, h2, .inr ⟨hs, h3⟩, h4⟩

theorem findPm_ok (hm : MemR c m w) {kt : TypeId} (ht : keyOK P kt = true) {k : V} {K : Value} (hk : VR c k K) : ∀ {es : List (V × V)} {l : List MapEntry} {p q : Pc} {r : Option V}, PcR c.ρ p → KvR c es l → (findPm P kt k es).gives c.ρ m p r q →
    PcR c.ρ q ∧ (∀ e ∈ l, ∃ v, cmpK P kt w K e.key v) ∧ (r = none → ∀ e ∈ l, cmpK P kt w K e.key false) ∧ ∀ x, r = some x → (∃ e ∈ l, cmpK P kt w K e.key true) ∧ ∀ e ∈ l, cmpK P kt w K e.key true → VR c x e.val
  | [], [], p, q, r, hp, _, h => by
    obtain ⟨rfl, rfl⟩ := R.gives_pure (show (R.pure none).gives c.ρ m p r q from h)
    exact ⟨hp, fun _ h => (nomatch h), fun _ _ h => (nomatch h), fun x hx => (nomatch hx)⟩
  | e :: es, e' :: l, p, q, r, hp, ⟨h1, h2, h3⟩, h => by
    obtain ⟨v, p1, h4, h5⟩ := R.gives_bnd (show ((keyEq P kt k e.1).bnd fun v => (findPm P kt k es).bnd fun r => (Bool.rec (R.pure r) (Option.rec (R.pure (some e.2)) (fun _ => R.fail "lookup two") r) v : R (Option V))).gives c.ρ m p r q from h)
    obtain ⟨hp1, hc⟩ := cmpK_of hm hp ht hk h1 h4
    obtain ⟨r1, p2, h6, h7⟩ := R.gives_bnd h5
    obtain ⟨hp2, i1, i2, i3⟩ := findPm_ok hm ht hk hp1 h3 h6
    cases v with
    | false =>
      obtain ⟨rfl, rfl⟩ := R.gives_pure (show (R.pure r1).gives c.ρ m p2 r q from h7)
      refine ⟨hp2, fun x hx => ?_, fun hr x hx => ?_, fun x hx => ?_⟩
      · cases hx with
        | head => exact ⟨_, hc⟩
        | tail _ hx => exact i1 x hx
      · cases hx with
        | head => exact hc
        | tail _ hx => exact i2 hr x hx
      · obtain ⟨⟨u, hu, hut⟩, j2⟩ := i3 x hx
        refine ⟨⟨u, .tail _ hu, hut⟩, fun y hy hyt => ?_⟩
        cases hy with
        | head => exact nomatch hc.one hyt
        | tail _ hy => exact j2 y hy hyt
    | true =>
      cases r1 with
      | some y => exact (R.gives_fail (s := "lookup two") h7).elim
      | none =>
        obtain ⟨rfl, rfl⟩ := R.gives_pure (show (R.pure (some e.2)).gives c.ρ m p2 r q from h7)
        refine ⟨hp2, fun x hx => ?_, fun hr => (nomatch hr), fun x hx => ?_⟩
        · cases hx with
          | head => exact ⟨_, hc⟩
          | tail _ hx => exact i1 x hx
        · obtain rfl := Option.some.inj hx
          refine ⟨⟨e', .head _, hc⟩, fun y hy hyt => ?_⟩
          cases hy with
          | head => exact h2
          | tail _ hy => exact nomatch (i2 rfl y hy).one hyt
  | [], _ :: _, _, _, _, _, h, _ => h.elim
  | _ :: _, [], _, _, _, _, h, _ => h.elim

/-- what a lookup is made of -/
def LookR (P : Program) (c : Cx) (w : World) (a : TypeId × TypeId) (ok : Bool) (X K : Value) (v : V) : Prop :=
  ∃ (es' : Array MapEntry) (r' : Option (Nat × Value)), (X = .map none ∧ es' = #[] ∨ ∃ b kk, X = .map (some b) ∧ w.heap[b]? = some (.map es' kk)) ∧ (Instr.findKey a.1 K es'.toList).run P w = .ok r' w ∧
    ∃ z b, (r' = none ∧ b = false ∧ (zeroValue a.2).run P w = .ok z w ∨ ∃ i, r' = some (i, z) ∧ b = true) ∧ VR c v (if ok then .tuple #[z, .bool b] else z)

theorem lookE_ok (hm : MemR c m w) (hp : PcR c.ρ p) {a : TypeId × TypeId} {ok : Bool} {x k v : V} {X K : Value} (hpl : keyOK P a.1 = true) (hx : VR c x X) (hk : VR c k K) (h : (lookE P a ok x k).gives c.ρ m p v q) :
    PcR c.ρ q ∧ LookR P c w a ok X K v := by
    obtain ⟨es, p1, h1, h2⟩ := R.gives_bnd (show ((entriesR x).bnd fun es => (findKey P a.1 k es 0).bnd fun r => foundR P a.2 ok r).gives c.ρ m p v q from h)
    obtain ⟨r, p2, h3, h4⟩ := R.gives_bnd h2
    clear h h2
    have hent : p1 = p ∧ ∃ es' : Array MapEntry, EsR c es es'.toList ∧ (X = .map none ∧ es' = #[] ∨ ∃ b kk, X = .map (some b) ∧ w.heap[b]? = some (.map es' kk)) := by
      cases x <;> try exact (R.gives_fail (s := "no map") h1).elim
      case nilMap =>
        obtain ⟨rfl, rfl⟩ := R.gives_pure (show (R.pure []).gives c.ρ m p es p1 from h1)
        rw [VR.nilMap] at hx; subst hx
        exact ⟨rfl, #[], ⟨rfl, by simp⟩, .inl ⟨rfl, rfl⟩⟩
      case map i =>
        obtain ⟨es1, kk, wr, hb, h5⟩ := onMapB_gives (show T.out c.ρ (onMapB (m.tr.get i) (fun es _ _ => T.ret (⟨es, p⟩ : Rp (List (V × V × Nat)))) (T.fail "no map")) = some ⟨es, p1⟩ from h1)
        simp [T.out] at h5
        obtain ⟨rfl, rfl⟩ := h5
        obtain ⟨_, es', h6, h7⟩ := hm.blk i _ hb
        obtain ⟨_, rfl⟩ := VR.map.1 hx
        exact ⟨rfl, es', h7, .inr ⟨_, kk, rfl, h6⟩⟩
    obtain ⟨rfl, es', he, hX⟩ := hent
    obtain ⟨hp2, r', h5, h6⟩ := findAll_ok hm hp hpl hk he h3
    have hfin : q = p2 ∧ ∃ z b, (r' = none ∧ b = false ∧ (zeroValue a.2).run P w = .ok z w ∨ ∃ i, r' = some (i, z) ∧ b = true) ∧ VR c v (if ok then .tuple #[z, .bool b] else z) := by
      cases r with
      | none =>
        have h6 : r' = none := h6
        subst h6
        obtain ⟨z, p3, h7, h8⟩ := R.gives_bnd (show ((R.opt "zero" (zeroOf P a.2)).bnd fun z => okV ok z false).gives c.ρ m p2 v q from h4)
        obtain ⟨h9, rfl⟩ := R.gives_opt h7
        obtain ⟨i, zv, _, _, h10, h11⟩ := zeroOf_ok h9
        obtain ⟨rfl, h12⟩ := okV_ok (h10 c) h8
        exact ⟨rfl, zv, false, .inl ⟨rfl, rfl, h11 w⟩, h12⟩
      | some a' =>
        obtain ⟨y, rfl, hy⟩ := h6.val he
        obtain ⟨rfl, h12⟩ := okV_ok hy (show (okV ok a'.2 true).gives c.ρ m p2 v q from h4)
        exact ⟨rfl, y, true, .inr ⟨_, rfl, rfl⟩, h12⟩
    obtain ⟨rfl, hz⟩ := hfin
    exact ⟨hp2, es', r', hX, h5, hz⟩

theorem lookP_ok (hm : MemR c m w) (hp : PcR c.ρ p) {a : TypeId × TypeId} {ok : Bool} {k v : V} {X K : Value} (hpl : keyOK P a.1 = true) {i : Nat} {es : List (V × V)} {wr : Bool} (hb : m.tr.get i = some (.pm es wr)) (hx : VR c (.map i) X) (hk : VR c k K)
    (h : ((findPm P a.1 k es).bnd fun r => foundP P a.2 ok r).gives c.ρ m p v q) : PcR c.ρ q ∧ LookR P c w a ok X K v := by
  obtain ⟨r, p2, h3, h4⟩ := R.gives_bnd h
  obtain ⟨_, es', kk, h6, l', hperm, hkv⟩ := hm.blk i _ hb
  obtain ⟨_, rfl⟩ := VR.map.1 hx
  obtain ⟨hp2, i1, i2, i3⟩ := findPm_ok hm hpl hk hp hkv h3
  have hmem : ∀ e, e ∈ es'.toList → e ∈ l' := fun e he => hperm.mem_iff.2 he
  obtain ⟨r', h7, h8⟩ := find_cmp hpl (es := es'.toList) fun e he => i1 e (hmem e he)
  have hfin : q = p2 ∧ ∃ z b, (r' = none ∧ b = false ∧ (zeroValue a.2).run P w = .ok z w ∨ ∃ i, r' = some (i, z) ∧ b = true) ∧ VR c v (if ok then .tuple #[z, .bool b] else z) := by
    cases r with
    | none =>
      have hr : r' = none := by
        rcases h8 with ⟨h8, _⟩ | ⟨j, e, h9, h10, _⟩
        · exact h8
        · exact nomatch h10.one (i2 rfl e (hmem e h9))
      subst hr
      obtain ⟨z, p3, h9, h10⟩ := R.gives_bnd (show ((R.opt "zero" (zeroOf P a.2)).bnd fun z => okV ok z false).gives c.ρ m p2 v q from h4)
      obtain ⟨h11, rfl⟩ := R.gives_opt h9
      obtain ⟨_, zv, _, _, h12, h13⟩ := zeroOf_ok h11
      obtain ⟨rfl, h14⟩ := okV_ok (h12 c) h10
      exact ⟨rfl, zv, false, .inl ⟨rfl, rfl, h13 w⟩, h14⟩
    | some x =>
      obtain ⟨⟨u, hu, hut⟩, j2⟩ := i3 x rfl
      rcases h8 with ⟨_, h9⟩ | ⟨j, e, h9, h10, rfl⟩
      · exact nomatch (h9 u (hperm.mem_iff.1 hu)).one hut
      · obtain ⟨rfl, h12⟩ := okV_ok (j2 e (hmem e h9) h10) (show (okV ok x true).gives c.ρ m p2 v q from h4)
        exact ⟨rfl, e.val, true, .inr ⟨j, rfl, rfl⟩, h12⟩
  obtain ⟨rfl, hz⟩ := hfin
  exact ⟨hp2, es', r', .inr ⟨_, kk, rfl, h6⟩, h7, hz⟩

theorem lookupR_ok (hm : MemR c m w) (hp : PcR c.ρ p) {t : TypeId} {ok : Bool} {x k v : V} {X K : Value} (hx : VR c x X) (hk : VR c k K) (h : (lookupR P t ok x k).gives c.ρ m p v q) :
    PcR c.ρ q ∧ ∃ z, (Instr.lookup t X K ok).run P w = .ok z w ∧ VR c v z := by
  unfold lookupR at h
  cases ha : mapOf P t with
  | none => rw [ha] at h; exact (R.gives_fail h).elim
  | some a =>
    rw [ha] at h
    obtain ⟨hu, hpl⟩ := mapOf_some ha
    obtain ⟨hfit, h⟩ := R.gives_if (show (selB (keyFit P a.1 k) (lookM P a ok x k) (R.fail "lookup")).gives c.ρ m p v q from h)
    have hcore : PcR c.ρ q ∧ LookR P c w a ok X K v := by
      have h : (onMap x (fun i => onPm (m.tr.get i) (fun es _ => ((findPm P a.1 k es).bnd fun r => foundP P a.2 ok r) m p) (lookE P a ok x k m p)) (lookE P a ok x k m p)).out c.ρ = some ⟨v, q⟩ := h
      rcases onMap_cases x (fun i => onPm (m.tr.get i) (fun es _ => ((findPm P a.1 k es).bnd fun r => foundP P a.2 ok r) m p) (lookE P a ok x k m p)) (lookE P a ok x k m p) with ⟨i, rfl, he⟩ | he <;> rw [he] at h
      · rcases onPm_cases (b := m.tr.get i) (fun es _ => ((findPm P a.1 k es).bnd fun r => foundP P a.2 ok r) m p) (lookE P a ok (.map i) k m p) with ⟨es, wr, hb, he⟩ | he <;> rw [he] at h
        · exact lookP_ok hm hp hpl hb hx hk h
        · exact lookE_ok hm hp hpl hx hk h
      · exact lookE_ok hm hp hpl hx hk h
    obtain ⟨hp2, es', r', hX, h5, z, b, h7, h8⟩ := hcore
    refine ⟨hp2, _, ?_, h8⟩
    unfold Instr.lookup
    rcases hX with ⟨rfl, rfl⟩ | ⟨b', kk, rfl, hg⟩
    · rcases h7 with ⟨rfl, rfl, h7⟩ | ⟨i, rfl, rfl⟩
      · simp only [Sem.run_bind, run_und hu, Result.andThen_ok, Sem.run_pure, checkKey_ok hpl hk hfit, h5, h7]
      · simp only [Sem.run_bind, run_und hu, Result.andThen_ok, Sem.run_pure, checkKey_ok hpl hk hfit, h5]
    · have hg : (getObj b').run P w = .ok (.map es' kk) w := run_getObj hg
      rcases h7 with ⟨rfl, rfl, h7⟩ | ⟨i, rfl, rfl⟩
      · simp only [Sem.run_bind, run_und hu, Result.andThen_ok, Sem.run_pure, checkKey_ok hpl hk hfit, h5, h7, hg]
      · simp only [Sem.run_bind, run_und hu, Result.andThen_ok, Sem.run_pure, checkKey_ok hpl hk hfit, h5, hg]

/-! ### assertions -/

theorem assertNo_ok {t : TypeId} {ok : Bool} {v : V} (h : (assertNo P t ok).gives c.ρ m p v q) : q = p ∧ ok = true ∧ ∃ z, (zeroValue t).run P w = .ok z w ∧ VR c v (.tuple #[z, .bool false]) := by
  obtain ⟨h1, h2⟩ := R.gives_if (show (selB ok ((R.opt "zero" (zeroOf P t)).bnd fun z => R.pure (.tuple [z, .bool (.lit false)])) (R.fail "type assertion")).gives c.ρ m p v q from h)
  obtain ⟨z, p1, h3, h4⟩ := R.gives_bnd h2
  obtain ⟨h5, rfl⟩ := R.gives_opt h3
  obtain ⟨rfl, rfl⟩ := R.gives_pure h4
  obtain ⟨i, zv, _, _, h10, h11⟩ := zeroOf_ok h5
  exact ⟨rfl, h1, zv, h11 w, VR.tuple.2 ⟨_, rfl, VRs.cons (h10 c) (VRs.cons VR.lit VRs.nil)⟩⟩

theorem meets_some {t u : TypeId} {ms : Array (String × TypeId)} {b : Bool} (h : meets P ms u = some b) : ∃ i, P.info? u = some i ∧ (Instr.missingMethod ms i.methods).isNone = b := by
  have _ := t
  unfold meets at h
  split at h
  · rename_i i hi
    split at h <;> rename_i hmm <;> simp at h <;> subst h <;> exact ⟨i, hi, by simp [hmm]⟩
  · simp at h

theorem assertR_ok {t xt : TypeId} {ok : Bool} {x v : V} {X : Value} (hx : VR c x X) (h : (assertR P t ok x).gives c.ρ m p v q) :
    q = p ∧ ∃ z, (Instr.typeAssert X xt t ok).run P w = .ok z w ∧ VR c v z := by
  cases x <;> try exact (R.gives_fail (s := "type assertion") h).elim
  case nilIface =>
    rw [VR.nilIface] at hx; subst hx
    obtain ⟨h1, h2⟩ := R.gives_if (show (selB (hasT P t) (assertNo P t ok) (R.fail "type assertion")).gives c.ρ m p v q from h)
    obtain ⟨d, hu⟩ := hasT_iff h1
    obtain ⟨rfl, rfl, z, h3, h4⟩ := assertNo_ok (w := w) h2
    refine ⟨rfl, _, ?_, h4⟩
    cases d <;> simp [Instr.typeAssert, run_und hu, h3]
  case iface u y =>
    obtain ⟨Y, rfl, hy⟩ := VR.iface.1 hx
    have hk : (Option.rec (selB (hasT P t) (assertIs P t ok y (some (Nat.beq u t))) (R.fail "type assertion")) (fun w => assertIs P t ok (.iface u y) (meets P w u)) (wantsOf P t) : R V).gives c.ρ m p v q := h
    clear h
    cases hw : wantsOf P t with
    | none =>
      rw [hw] at hk
      obtain ⟨h1, h2⟩ := R.gives_if (show (selB (hasT P t) (assertIs P t ok y (some (Nat.beq u t))) (R.fail "type assertion")).gives c.ρ m p v q from hk)
      obtain ⟨d, hu⟩ := hasT_iff h1
      have hni := wantsOf_none hw
      cases hut : Nat.beq u t with
      | true =>
        rw [hut] at h2
        obtain ⟨rfl, h3⟩ := okV_ok hy (show (okV ok y true).gives c.ρ m p v q from h2)
        rw [beq_iff] at hut; subst hut
        refine ⟨rfl, _, ?_, h3⟩
        cases d <;> first | exact absurd hu (hni _) | simp [Instr.typeAssert, run_und hu]
      | false =>
        rw [hut] at h2
        obtain ⟨rfl, rfl, z, h3, h4⟩ := assertNo_ok (w := w) (show (assertNo P t ok).gives c.ρ m p v q from h2)
        rw [beq_false] at hut
        refine ⟨rfl, _, ?_, h4⟩
        cases d <;> first | exact absurd hu (hni _) | simp [Instr.typeAssert, run_und hu, hut, h3]
    | some ws =>
      rw [hw] at hk
      have hu := wantsOf_some hw
      cases hmt : meets P ws u with
      | none => simp only [hmt] at hk; exact (R.gives_fail (s := "type assertion") hk).elim
      | some b =>
        simp only [hmt] at hk
        obtain ⟨i, hi, hb⟩ := meets_some (t := t) hmt
        cases b
        · obtain ⟨rfl, rfl, z, h3, h4⟩ := assertNo_ok (w := w) (show (assertNo P t ok).gives c.ρ m p v q from hk)
          refine ⟨rfl, _, ?_, h4⟩
          cases hmm : Instr.missingMethod ws i.methods with
          | none => rw [hmm] at hb; simp at hb
          | some s => simp [Instr.typeAssert, run_und hu, run_info hi, hmm, h3]
        · obtain ⟨rfl, h3⟩ := okV_ok hx (show (okV ok (.iface u y) true).gives c.ρ m p v q from hk)
          refine ⟨rfl, _, ?_, h3⟩
          cases hmm : Instr.missingMethod ws i.methods with
          | none => simp [Instr.typeAssert, run_und hu, run_info hi, hmm]
          | some s => rw [hmm] at hb; simp at hb
end ops

end Go.Sy
