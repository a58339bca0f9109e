/-
  What is proved here: the evaluator's unary operators, conversions, fields, indexes, lengths, least and greatest values do what the model's do.
  Conditions: none.
-/
import Derived.Test.YtcipfcbaclfnhaaSyCan
import Derived.Test.YtcipfcbaclfnhaaSyEq2
import Derived.Laws.BytesString
namespace Go.Sy

theorem kMax_eq (k : IntKind) : kMax k = k.max := by cases k <;> rfl

section ops
variable {P : Program} {c : Cx} {m : Mem} {w : World} {p q : Pc}

theorem unR_ok (hp : PcR c.ρ p) {op : UnOp} {x : V} {X : Value} {v : V} (hx : VR c x X) (h : (unR op x).gives c.ρ m p v q) :
    q = p ∧ ∃ z, (Op.unary op X).run P w = .ok z w ∧ VR c v z := by
  cases op
  case neg =>
    obtain ⟨k, e, rfl, h⟩ := onInt_gives (s := "an operator") (show (onInt x (fun k e => R.pure (V.int k (mkBin .sub k (.n 0) e))) (R.fail "an operator")).gives c.ρ m p v q from h)
    · obtain ⟨rfl, rfl⟩ := R.gives_pure h
      obtain ⟨rfl, h0, h1⟩ := VR.int.1 hx
      exact ⟨rfl, .int k (k.wrap (0 - e.den c.ρ)), by simp [Op.unary, Op.intArith], VR.int.2 ⟨by rw [mkBin_den]; show Value.int k (k.wrap (0 - e.den c.ρ)) = .int k (wrapZ k (0 - e.den c.ρ)); rw [wrapZ_eq], by rw [mkBin_den]; exact binZ_range _ k _ _ (kMin_le k) (kMax_ge k)⟩⟩
  case xor =>
    obtain ⟨k, e, rfl, h⟩ := onInt_gives (s := "an operator") (show (onInt x (fun k e => R.pure (V.int k (mkBin .xor k (.n (cond k.signed (-1) (kMax k))) e))) (R.fail "an operator")).gives c.ρ m p v q from h)
    · obtain ⟨rfl, rfl⟩ := R.gives_pure h
      obtain ⟨rfl, h0, h1⟩ := VR.int.1 hx
      have hz : kMin k ≤ cond k.signed (-1) (kMax k) ∧ cond k.signed (-1) (kMax k) ≤ kMax k := by cases k <;> simp [kMin, kMax, IntKind.signed, limN]
      refine ⟨rfl, .int k (bitsZ .xor k (cond k.signed (-1) (kMax k)) (e.den c.ρ)), ?_, VR.int.2 ⟨by rw [mkBin_den]; show _ = Value.int k (bitsF .xor k _ _); rw [bitsF_eq]; rfl, by rw [mkBin_den]; exact binZ_range _ k _ _ hz.1 hz.2⟩⟩
      have : (if k.signed = true then (-1 : Int) else k.max) = cond k.signed (-1) (kMax k) := by rw [kMax_eq]; cases k.signed <;> rfl
      simp [Op.unary, Op.intBits, bitsZ, this]
  case not =>
    obtain ⟨b, rfl, h⟩ := onBool_gives (s := "an operator") (show (onBool x (fun b => R.pure (V.bool (mkNot b))) (R.fail "an operator")).gives c.ρ m p v q from h)
    · obtain ⟨rfl, rfl⟩ := R.gives_pure h
      rw [VR.bool] at hx; subst hx
      exact ⟨rfl, .bool (!b.den c.ρ), by simp [Op.unary], VR.bool.2 (by rw [mkNot_den])⟩
  case plus => exact (R.gives_fail h).elim

/-! ### conversions -/

theorem intT_some {t : TypeId} {k : IntKind} (h : intT P t = some k) : P.underlying t = some (.int k) := by
  unfold intT at h; split at h
  · rename_i h'; simp at h; subst h; exact h'
  · simp at h
theorem isStrT_iff {t : TypeId} (h : isStrT P t = true) : P.underlying t = some .string := by
  unfold isStrT at h; split at h
  · assumption
  · simp at h
theorem isByteT_iff {t : TypeId} (h : isByteT P t = true) : P.underlying t = some (.int .u8) := by
  unfold isByteT at h; split at h
  · assumption
  · simp at h
theorem isMapT_iff {t : TypeId} (h : isMapT P t = true) : ∃ k e, P.underlying t = some (.map k e) := by
  unfold isMapT at h; split at h
  · exact ⟨_, _, by assumption⟩
  · simp at h
theorem hasT_iff {t : TypeId} (h : hasT P t = true) : ∃ d, P.underlying t = some d := by
  unfold hasT at h; split at h
  · exact ⟨_, by assumption⟩
  · simp at h
theorem elemOf_some {t e : TypeId} (h : elemOf P t = some e) : P.underlying t = some (.slice e) := by
  unfold elemOf at h; split at h
  · rename_i h'; simp at h; subst h; exact h'
  · simp at h
theorem ptrElem_some {t e : TypeId} (h : ptrElem P t = some e) : P.underlying t = some (.pointer e) := by
  unfold ptrElem at h; split at h
  · rename_i h'; simp at h; subst h; exact h'
  · simp at h
theorem arrOf_some {t : TypeId} {a : Nat × TypeId × Nat} (h : arrOf P t = some a) : P.underlying t = some (.array a.1 a.2.1) ∧ szOf P a.2.1 = some a.2.2 := by
  unfold arrOf at h; split at h
  · rename_i h'; rw [Option.map_eq_some_iff] at h; obtain ⟨s, hs, rfl⟩ := h; exact ⟨h', hs⟩
  · simp at h
theorem slcOf_some {t : TypeId} {a : TypeId × Nat} (h : slcOf P t = some a) : P.underlying t = some (.slice a.1) ∧ szOf P a.1 = some a.2 := by
  unfold slcOf at h; split at h
  · rename_i h'; rw [Option.map_eq_some_iff] at h; obtain ⟨s, hs, rfl⟩ := h; exact ⟨h', hs⟩
  · simp at h
theorem wantsOf_some {t : TypeId} {ms : Array (String × TypeId)} (h : wantsOf P t = some ms) : P.underlying t = some (.interface ms) := by
  unfold wantsOf at h; split at h
  · rename_i h'; simp at h; subst h; exact h'
  · simp at h
theorem wantsOf_none {t : TypeId} (h : wantsOf P t = none) : ∀ ms, P.underlying t ≠ some (.interface ms) := by
  intro ms hm; unfold wantsOf at h; rw [hm] at h; simp at h

theorem convInt_ok (hp : PcR c.ρ p) {src dst : TypeId} {k : IntKind} (hs : hasT P src = true) (hd : P.underlying dst = some (.int k)) {x v : V} {X : Value} (hx : VR c x X) (h : (convInt k x).gives c.ρ m p v q) :
    q = p ∧ ∃ z, (convert src dst X).run P w = .ok z w ∧ VR c v z := by
  obtain ⟨d, hs⟩ := hasT_iff hs
  have hrun : ∀ (k' : IntKind) (n : Int), (convert src dst (.int k' n)).run P w = .ok (.int k (k.wrap n)) w := fun k' n => by
    simp [convert, run_und hs, run_und hd, Conv.intToInt]
  have hS : ∀ e : E, (mkCvS k e).gives c.ρ m p v q → q = p ∧ VR c v (.int k (k.wrap (e.den c.ρ))) := by
    intro e h
    have hw : VR c (.int k (.cv k e)) (.int k (k.wrap (e.den c.ρ))) := VR.int.2 ⟨rfl, wrap_lo k _, wrap_hi k _⟩
    have hw' : VR c (.int k (canon p.rng (.cv k e))) (.int k (k.wrap (e.den c.ρ))) := VR.int.2 ⟨by rw [canon_den hp.rng]; rfl, by rw [canon_den hp.rng]; exact wrap_lo k _, by rw [canon_den hp.rng]; exact wrap_hi k _⟩
    unfold R.gives mkCvS at h
    split at h
    · rename_i lo hi hiv
      have hin := E.iv_in hp.rng hiv
      cases hc : (leZ (kMin k) lo && leZ hi (kMax k)) <;> simp [hc, T.out] at h
      · obtain ⟨rfl, rfl⟩ := h; exact ⟨rfl, hw'⟩
      · obtain ⟨rfl, rfl⟩ := h
        simp only [Bool.and_eq_true, leZ_iff] at hc
        exact ⟨rfl, VR.int.2 ⟨by rw [wrap_in k _ (by omega) (by omega)], by omega, by omega⟩⟩
    · simp [T.out] at h; obtain ⟨rfl, rfl⟩ := h; exact ⟨rfl, hw⟩
  obtain ⟨k', e, rfl, h⟩ := onInt_gives (s := "convert") (show (onInt x (fun _ e => onN e (fun z => R.pure (V.int k (.n (wrapZ k z)))) (mkCvS k e)) (R.fail "convert")).gives c.ρ m p v q from h)
  · obtain ⟨rfl, _⟩ := VR.int.1 hx
    have h : (onN e (fun z => R.pure (V.int k (.n (wrapZ k z)))) (mkCvS k e)).gives c.ρ m p v q := h
    cases e with
    | n z =>
      obtain ⟨rfl, rfl⟩ := R.gives_pure (show (R.pure (V.int k (.n (wrapZ k z)))).gives c.ρ m p v q from h)
      exact ⟨rfl, _, hrun _ _, VR.int.2 ⟨by simp [E.den, wrapZ_eq], by simp only [E.den, wrapZ_eq]; exact wrap_lo k z, by simp only [E.den, wrapZ_eq]; exact wrap_hi k z⟩⟩
    | x i => obtain ⟨h1, h2⟩ := hS _ h; exact ⟨h1, _, hrun _ _, h2⟩
    | bin => obtain ⟨h1, h2⟩ := hS _ h; exact ⟨h1, _, hrun _ _, h2⟩
    | cv => obtain ⟨h1, h2⟩ := hS _ h; exact ⟨h1, _, hrun _ _, h2⟩
    | rd => obtain ⟨h1, h2⟩ := hS _ h; exact ⟨h1, _, hrun _ _, h2⟩
    | tab => obtain ⟨h1, h2⟩ := hS _ h; exact ⟨h1, _, hrun _ _, h2⟩

theorem bytesOf_ok : ∀ {l : List V} {xs : List Value} {es : List E}, VRs c l xs → bytesOf l = some es → ∃ ns : List Int, xs = ns.map (Value.int .u8) ∧ es.map (E.den c.ρ) = ns ∧ ∀ n ∈ ns, 0 ≤ n ∧ n < 256
  | [], xs, es, h, hb => by
    rw [VRs.nil_iff] at h; subst h
    have hb : some [] = some es := hb
    simp at hb; subst hb
    exact ⟨[], rfl, rfl, by simp⟩
  | v :: l, xs, es, h, hb => by
    obtain ⟨x, ys, rfl, hx, hl⟩ := VRs.cons_iff.1 h
    have hb : (Option.rec none (fun b => Option.rec none (fun r => some (b :: r)) (bytesOf l)) (byteE v) : Option (List E)) = some es := hb
    cases hv : byteE v with
    | none => rw [hv] at hb; simp at hb
    | some e =>
      rw [hv] at hb
      cases hr : bytesOf l with
      | none => rw [hr] at hb; simp at hb
      | some r =>
        rw [hr] at hb
        have hb : some (e :: r) = some es := hb
        simp at hb; subst hb
        obtain ⟨ns, rfl, h2, h3⟩ := bytesOf_ok hl hr
        unfold byteE at hv
        rcases onInt_cases v (fun k e => selB (Nat.beq (kindNo k) 4) (some e) none) none with ⟨k, e', rfl, he⟩ | he <;> rw [he] at hv
        · cases hk : Nat.beq (kindNo k) 4 <;> rw [hk] at hv
          · simp at hv
          · simp at hv; subst hv
            have : k = .u8 := by cases k <;> first | rfl | exact absurd hk (by decide)
            subst this
            obtain ⟨rfl, h4, h5⟩ := VR.int.1 hx
            refine ⟨e'.den c.ρ :: ns, rfl, by simp [h2], fun n hn => ?_⟩
            rcases List.mem_cons.1 hn with rfl | hn
            · have e1 : kMin .u8 = 0 := rfl
              have e2 : kMax .u8 = 255 := rfl
              omega
            · exact h3 n hn
        · simp at hv

theorem foldl_push : ∀ (ns : List Int) (s : ByteArray), (ns.foldl (fun r n => r.push (UInt8.ofNat n.toNat)) s).data.toList = s.data.toList ++ ns.map fun n => UInt8.ofNat n.toNat
  | [], s => by simp
  | n :: ns, s => by
    rw [List.foldl_cons, foldl_push ns]
    simp [ByteArray.push]

theorem convBytes_ok (hm : MemR c m w) {src dst : TypeId} (hd : P.underlying dst = some .string) {x v : V} {X : Value} (hx : VR c x X) (h : (convBytes P src x).gives c.ρ m p v q) :
    q = p ∧ ∃ z, (convert src dst X).run P w = .ok z w ∧ VR c v z := by
  unfold convBytes at h
  cases hs : elemOf P src with
  | none => rw [hs] at h; exact (R.gives_fail h).elim
  | some e =>
    rw [hs] at h
    have hs' := elemOf_some hs
    obtain ⟨he', h'⟩ := R.gives_if (show (selB (isByteT P e) _ (R.fail "convert")).gives c.ρ m p v q from h)
    have he := isByteT_iff he'
    clear hs h he'
    have hs := hs'
    have h := h'
    clear hs' h'
    cases x <;> try exact (R.gives_fail (s := "convert") h).elim
    case nilSlice =>
      rw [VR.nilSlice] at hx; subst hx
      obtain ⟨rfl, rfl⟩ := R.gives_pure (show (R.pure (V.str [])).gives c.ρ m p v q from h)
      exact ⟨rfl, .string .empty, by rw [run_convert_bytes_string w src dst e none 0 0 hs he hd]; simp [Conv.bytesToString], VR.str.2 ⟨_, rfl, by simp [BR]⟩⟩
    case eslice i z =>
      obtain ⟨_, o, cap, rfl, _⟩ := VR.eslice.1 hx
      obtain ⟨rfl, rfl⟩ := R.gives_pure (show (R.pure (V.str [])).gives c.ρ m p v q from h)
      exact ⟨rfl, .string .empty, by rw [run_convert_bytes_string w src dst e _ 0 cap hs he hd, run_bytesToString w _ 0 cap [] (by simpa using run_loadCells (P := P) w (c.ad i o) 0 (fun _ => undef) (fun j hj => by omega))]; rfl, VR.str.2 ⟨_, rfl, by simp [BR]⟩⟩
    case slice i o len cp =>
      obtain ⟨hi, cap, _, _, rfl⟩ := VR.slice.1 hx
      obtain ⟨l, p1, h1, h2⟩ := R.gives_bnd (show ((rdCells i o len).bnd fun l => R.opt "convert bytes" ((bytesOf l).map .str)).gives c.ρ m p v q from h)
      obtain ⟨h3, rfl⟩ := R.gives_opt h2
      obtain ⟨es, h4, rfl⟩ := Option.map_eq_some_iff.1 h3
      obtain ⟨rfl, _, xs, h5, h6, _⟩ := rdCells_ok (P := P) hm h1
      obtain ⟨ns, h7, h8, h9⟩ := bytesOf_ok h6 h4
      have hx : xs = (ns.map (Value.int .u8)).toArray := by apply Array.ext'; simpa using h7
      rw [hx] at h5
      refine ⟨rfl, _, by rw [run_convert_bytes_string w src dst e _ len cap hs he hd, run_bytesToString w _ len cap ns h5], VR.str.2 ⟨_, rfl, ?_⟩⟩
      unfold BR
      rw [foldl_push, h8]
      have : (ByteArray.empty).data.toList = [] := rfl
      rw [this, List.nil_append, List.map_map]
      conv => lhs; rw [← List.map_id ns]
      apply List.map_congr_left
      intro n hn
      have := h9 n hn
      simp
      omega

theorem convR_ok (hm : MemR c m w) (hp : PcR c.ρ p) {src dst : TypeId} {x v : V} {X : Value} (hx : VR c x X) (h : (convR P src dst x).gives c.ρ m p v q) :
    q = p ∧ ∃ z, (convert src dst X).run P w = .ok z w ∧ VR c v z := by
  unfold convR at h
  cases hd : intT P dst with
  | some k =>
    rw [hd] at h
    obtain ⟨h1, h2⟩ := R.gives_if (show (selB (hasT P src) (convInt k x) (R.fail "convert")).gives c.ρ m p v q from h)
    exact convInt_ok hp h1 (intT_some hd) hx h2
  | none =>
    rw [hd] at h
    obtain ⟨h1, h2⟩ := R.gives_if (show (selB (isStrT P dst) (convStr P src x) (R.fail "convert")).gives c.ρ m p v q from h)
    have h1 := isStrT_iff h1
    unfold convStr at h2
    rcases onStr_cases x (fun l => selB (isStrT P src) (R.pure (.str l)) (R.fail "convert")) (convBytes P src x) with ⟨l, rfl, he⟩ | he <;> rw [he] at h2
    · obtain ⟨h3, h4⟩ := R.gives_if h2
      obtain ⟨rfl, rfl⟩ := R.gives_pure h4
      obtain ⟨s, rfl, hs⟩ := VR.str.1 hx
      exact ⟨rfl, .string s, by simp [convert, run_und (isStrT_iff h3), run_und h1], hx⟩
    · exact convBytes_ok hm h1 hx h2

/-! ### fields and elements -/

theorem fieldOf_some {t : TypeId} {f : Nat} {fd : Field} (h : fieldOf P t f = some fd) : ∃ fields, P.underlying t = some (.struct fields) ∧ fields[f]? = some fd := by
  unfold fieldOf at h; split at h
  · exact ⟨_, by assumption, h⟩
  · simp at h

theorem fieldR_ok {t : TypeId} {f : Nat} {x v : V} {X : Value} (hx : VR c x X) (h : (fieldR P t f x).gives c.ρ m p v q) : q = p ∧ ∃ z, (Instr.field t X f).run P w = .ok z w ∧ VR c v z := by
  unfold fieldR at h
  cases hf : fieldOf P t f with
  | none => rw [hf] at h; exact (R.gives_fail h).elim
  | some fd =>
    rw [hf] at h
    obtain ⟨fields, h1, h2⟩ := fieldOf_some hf
    have h : (onAgg x (fun l => R.opt "field" (partV P fd.type l fd.offset)) (R.fail "field")).gives c.ρ m p v q := h
    rcases onAgg_cases x (fun l => R.opt "field" (partV P fd.type l fd.offset)) (R.fail "field") with ⟨l, rfl, he⟩ | he <;> rw [he] at h
    · obtain ⟨xs, rfl, hl⟩ := VR.agg.1 hx
      obtain ⟨h3, rfl⟩ := R.gives_opt h
      obtain ⟨z, h4, h5⟩ := partV_ok (w := w) hl h3
      exact ⟨rfl, z, by simp [Instr.field, run_und h1, h2, asAgg, h4], h5⟩
    · exact (R.gives_fail h).elim

theorem fieldAddrR_ok {t : TypeId} {f : Nat} {x v : V} {X : Value} (hx : VR c x X) (h : (fieldAddrR P t f x).gives c.ρ m p v q) : q = p ∧ ∃ z, (Instr.fieldAt t X f).run P w = .ok z w ∧ VR c v z := by
  unfold fieldAddrR at h
  cases hf : fieldOff P t f with
  | none => rw [hf] at h; exact (R.gives_fail h).elim
  | some d =>
    rw [hf] at h
    unfold fieldOff at hf
    split at hf
    · rename_i fd hfd
      obtain ⟨fields, h1, h2⟩ := fieldOf_some hfd
      cases hs : posO (szOf P fd.type) <;> rw [hs] at hf
      · simp at hf
      · simp at hf; subst hf
        have ⟨n, hn⟩ : ∃ n, szOf P fd.type = some (n + 1) := by
          cases hz : szOf P fd.type with
          | none => rw [hz] at hs; exact (Bool.false_ne_true hs).elim
          | some n => cases n with
            | zero => rw [hz] at hs; exact (Bool.false_ne_true hs).elim
            | succ n => exact ⟨n, rfl⟩
        cases x <;> try exact (R.gives_fail (s := "fieldAddr") h).elim
        case sptr i sz e k =>
          obtain ⟨hi, j, h3, rfl⟩ := VR.sptr.1 hx
          obtain ⟨rfl, rfl⟩ := R.gives_pure (show (R.pure (V.sptr i sz e (Nat.add k fd.offset))).gives c.ρ m p v q from h)
          exact ⟨rfl, .pointer (some ((c.ad i (j * sz + k)).add fd.offset)), by simp [Instr.fieldAt, run_und h1, h2, Instr.sureAddr, fieldPlace, run_size hn], VR.sptr.2 ⟨hi, j, h3, by rw [Cx.ad_add, Nat.add_assoc]; rfl⟩⟩
        case ptr i o =>
          obtain ⟨hi, rfl⟩ := VR.ptr.1 hx
          obtain ⟨rfl, rfl⟩ := R.gives_pure (show (R.pure (V.ptr i (Nat.add o fd.offset))).gives c.ρ m p v q from h)
          exact ⟨rfl, .pointer (some ((c.ad i o).add fd.offset)), by simp [Instr.fieldAt, run_und h1, h2, Instr.sureAddr, fieldPlace, run_size hn], VR.ptr.2 ⟨hi, by rw [Cx.ad_add]; rfl⟩⟩
    · simp at hf

theorem indexN_ok (hp : PcR c.ρ p) {ix : V} {I : Value} {n i : Nat} (hx : VR c ix I) (h : (indexN ix n).gives c.ρ m p i q) : q = p ∧ i < n ∧ ∃ k, I = .int k (i : Int) := by
  unfold indexN at h
  rcases onInt_cases ix (fun _ e => (natR e).bnd fun i => selB (Nat.blt i n) (R.pure i) (R.fail "index out of range")) (R.fail "index") with ⟨k, e, rfl, he⟩ | he <;> rw [he] at h
  · obtain ⟨j, p1, h1, h2⟩ := R.gives_bnd h
    obtain ⟨h3, rfl⟩ := natR_gives hp h1
    obtain ⟨h4, h5⟩ := R.gives_if h2
    obtain ⟨rfl, rfl⟩ := R.gives_pure h5
    obtain ⟨rfl, _⟩ := VR.int.1 hx
    rw [blt_iff] at h4
    exact ⟨rfl, h4, k, by rw [h3]⟩
  · exact (R.gives_fail h).elim

theorem indexAddrR_ok (hp : PcR c.ρ p) {t : TypeId} {x ix v : V} {X I : Value} (hx : VR c x X) (hi : VR c ix I) (h : (indexAddrR P t x ix).gives c.ρ m p v q) :
    q = p ∧ ∃ z, (Instr.indexAt t X I).run P w = .ok z w ∧ VR c v z := by
  cases x <;> try exact (R.gives_fail (s := "indexAddr") h).elim
  case ptr i o =>
    have h : (idxPtr P t i o ix).gives c.ρ m p v q := h
    unfold idxPtr at h
    cases ha : arrOf P t with
    | none => rw [ha] at h; exact (R.gives_fail h).elim
    | some a =>
      rw [ha] at h
      obtain ⟨h1, h2⟩ := arrOf_some ha
      obtain ⟨j, p1, h3, h4⟩ := R.gives_bnd (show ((indexN ix a.1).bnd fun j => R.pure (V.ptr i (Nat.add o (Nat.mul j a.2.2)))).gives c.ρ m p v q from h)
      obtain ⟨rfl, rfl⟩ := R.gives_pure h4
      obtain ⟨rfl, hj, k, rfl⟩ := indexN_ok hp hi h3
      obtain ⟨hb, rfl⟩ := VR.ptr.1 hx
      refine ⟨rfl, .pointer (some ((c.ad i o).add (j * a.2.2))), ?_, VR.ptr.2 ⟨hb, by rw [Cx.ad_add]; rfl⟩⟩
      simp [Instr.indexAt, asIntOf, run_und h1, run_size h2, Instr.sureAddr]
      intro h'; omega
  case sarr i sz len =>
    have h : (idxSarr P t i sz len ix).gives c.ρ m p v q := h
    unfold idxSarr at h
    cases ha : slcOf P t with
    | none => rw [ha] at h; exact (R.gives_fail h).elim
    | some a =>
      rw [ha] at h
      obtain ⟨h1, h2⟩ := slcOf_some ha
      obtain ⟨hsz, h⟩ := R.gives_if (show (selB (Nat.beq a.2 sz) (onInt ix (fun _ e => (mustR (mkNot (mkLt e (.n 0)))).bnd fun _ => (mustR (mkLt e len)).bnd fun _ => sptrR i sz e) (R.fail "index")) (R.fail "index")).gives c.ρ m p v q from h)
      rw [beq_iff] at hsz
      rcases onInt_cases ix (fun _ e => (mustR (mkNot (mkLt e (.n 0)))).bnd fun _ => (mustR (mkLt e len)).bnd fun _ => sptrR i sz e) (R.fail "index") with ⟨k, e, rfl, he⟩ | he <;> rw [he] at h
      · obtain ⟨_, p1, h3, h4⟩ := R.gives_bnd h
        obtain ⟨h5, rfl⟩ := mustR_gives hp h3
        obtain ⟨_, p2, h6, h7⟩ := R.gives_bnd h4
        obtain ⟨h8, rfl⟩ := mustR_gives hp h6
        have h7 := Option.some.inj (show some (⟨V.sptr i sz (litOf p2.rng e) 0, p2⟩ : Rp V) = some ⟨v, q⟩ from h7)
        obtain ⟨rfl, rfl⟩ : V.sptr i sz (litOf p2.rng e) 0 = v ∧ p2 = q := ⟨congrArg Rp.v h7, congrArg Rp.p h7⟩
        rw [mkNot_den, mkLt_den] at h5
        rw [mkLt_den] at h8
        have h5 : ¬ e.den c.ρ < 0 := by
          have : decide (e.den c.ρ < (E.n 0).den c.ρ) = false := by simpa using h5
          exact of_decide_eq_false this
        have h8 := of_decide_eq_true h8
        obtain ⟨j, hj⟩ := Int.eq_ofNat_of_zero_le (show 0 ≤ e.den c.ρ by omega)
        obtain ⟨rfl, _, _⟩ := VR.int.1 hi
        obtain ⟨hb, n, cap, g1, _, g3⟩ := VR.sarr.1 hx
        rw [hj, g1] at h8
        have hjn : j < n := by omega
        rcases g3 with ⟨_, rfl⟩ | ⟨rfl, _, _⟩
        · refine ⟨rfl, .pointer (some ((c.ad i 0).add (j * a.2))), ?_, VR.sptr.2 ⟨hb, j, (litOf_den hp.rng e).trans hj, by rw [Cx.ad_add, hsz]; congr 3; omega⟩⟩
          rw [hj]
          simp [Instr.indexAt, asIntOf, run_und h1, run_size h2]
          intro h'; omega
        · omega
      · exact (R.gives_fail h).elim
  case slice i o len cp =>
    have h : (idxSlice P t i o len ix).gives c.ρ m p v q := h
    unfold idxSlice at h
    cases ha : slcOf P t with
    | none => rw [ha] at h; exact (R.gives_fail h).elim
    | some a =>
      rw [ha] at h
      obtain ⟨h1, h2⟩ := slcOf_some ha
      obtain ⟨j, p1, h3, h4⟩ := R.gives_bnd (show ((indexN ix len).bnd fun j => R.pure (V.ptr i (Nat.add o (Nat.mul j a.2)))).gives c.ρ m p v q from h)
      obtain ⟨rfl, rfl⟩ := R.gives_pure h4
      obtain ⟨rfl, hj, k, rfl⟩ := indexN_ok hp hi h3
      obtain ⟨hb, cap, _, _, rfl⟩ := VR.slice.1 hx
      refine ⟨rfl, .pointer (some ((c.ad i o).add (j * a.2))), ?_, VR.ptr.2 ⟨hb, by rw [Cx.ad_add]; rfl⟩⟩
      simp [Instr.indexAt, asIntOf, run_und h1, run_size h2]
      intro h'; omega

theorem indexR_ok (hp : PcR c.ρ p) {t : TypeId} {x ix v : V} {X I : Value} (hx : VR c x X) (hi : VR c ix I) (h : (indexR P t x ix).gives c.ρ m p v q) :
    q = p ∧ ∃ z, (Instr.index t X I).run P w = .ok z w ∧ VR c v z := by
  unfold indexR at h
  rcases onAgg_cases x (fun l => (Option.rec (R.fail "index") (fun a => (indexN ix a.1).bnd fun j => R.opt "index" (partV P a.2.1 l (Nat.mul j a.2.2))) (arrOf P t) : R V))
    (onStr x (fun l => selB (isStrT P t) ((indexN ix (lenL l)).bnd fun j => R.opt "index" ((nth j l).map (V.int .u8))) (R.fail "index")) (R.fail "index")) with ⟨l, rfl, he⟩ | he <;> rw [he] at h
  · obtain ⟨xs, rfl, hl⟩ := VR.agg.1 hx
    cases ha : arrOf P t with
    | none => rw [ha] at h; exact (R.gives_fail h).elim
    | some a =>
      rw [ha] at h
      obtain ⟨h1, h2⟩ := arrOf_some ha
      obtain ⟨j, p1, h3, h4⟩ := R.gives_bnd (show ((indexN ix a.1).bnd fun j => R.opt "index" (partV P a.2.1 l (Nat.mul j a.2.2))).gives c.ρ m p v q from h)
      obtain ⟨h5, rfl⟩ := R.gives_opt h4
      obtain ⟨rfl, hj, k, rfl⟩ := indexN_ok hp hi h3
      obtain ⟨z, h6, h7⟩ := partV_ok (w := w) hl h5
      have h6 : (part a.2.1 xs (j * a.2.2)).run P w = .ok z w := h6
      exact ⟨rfl, z, by simp [Instr.index, asIntOf, run_und h1, run_size h2, h6]; intro h'; omega, h7⟩
  · rcases onStr_cases x (fun l => selB (isStrT P t) ((indexN ix (lenL l)).bnd fun j => R.opt "index" ((nth j l).map (V.int .u8))) (R.fail "index")) (R.fail "index") with ⟨l, rfl, he'⟩ | he' <;> rw [he'] at h
    · obtain ⟨s, rfl, hs⟩ := VR.str.1 hx
      obtain ⟨ht, h⟩ := R.gives_if h
      have ht := isStrT_iff ht
      obtain ⟨j, p1, h3, h4⟩ := R.gives_bnd h
      obtain ⟨h5, rfl⟩ := R.gives_opt h4
      obtain ⟨rfl, hj, k, rfl⟩ := indexN_ok hp hi h3
      rw [nth_eq] at h5
      obtain ⟨e, h6, rfl⟩ := Option.map_eq_some_iff.1 h5
      obtain ⟨b, h7, h8⟩ := hs.get h6
      have hlt : j < s.size := by
        have := (List.getElem?_eq_some_iff.1 h7).1
        simpa using this
      have hb : s[j]? = some b := by
        rw [ByteArray.getElem?_lt' s j hlt]
        have : s.data.toList[j]? = some s[j] := by
          rw [List.getElem?_eq_getElem (by simpa using hlt)]; rfl
        rw [← this]; exact h7
      refine ⟨rfl, .int .u8 b.toNat, by simp [Instr.index, asIntOf, run_und ht, hb], VR.int.2 ⟨by rw [h8], by rw [h8]; simp [kMin, IntKind.signed], ?_⟩⟩
      rw [h8]; have := b.toNat_lt; simp [kMax, limN]; omega
    · exact (R.gives_fail h).elim

/-! ### lengths, least, greatest -/

theorem VR.intN (n : Nat) (h : (n : Int) ≤ 9223372036854775807) : VR c (intN n) (goInt n) :=
  VR.int.2 ⟨rfl, by simp [E.den, kMin, IntKind.signed, limN], by simp [E.den, kMax, limN]; omega⟩

theorem minMax_ok {lt : Bool} {k : IntKind} : ∀ {l : List V} {a : E} {p : Pc} {xs : List Value} {v : V}, PcR c.ρ p → kMin k ≤ a.den c.ρ → a.den c.ρ ≤ kMax k → VRs c l xs → (minMax lt k l a).gives c.ρ m p v q →
    PcR c.ρ q ∧ ∃ z, (xs.foldlM (if lt then Builtin.min2 else Builtin.max2) (.int k (a.den c.ρ))).run P w = .ok z w ∧ VR c v z
  | [], a, p, xs, v, hp, h0, h1, hl, h => by
    rw [VRs.nil_iff] at hl; subst hl
    obtain ⟨rfl, rfl⟩ := R.gives_pure (show (R.pure (V.int k a)).gives c.ρ m p v q from h)
    exact ⟨hp, _, by simp, VR.int.2 ⟨rfl, h0, h1⟩⟩
  | y :: l, a, p, xs, v, hp, h0, h1, hl, h => by
    obtain ⟨x, ys, rfl, hx, hl'⟩ := VRs.cons_iff.1 hl
    have h : (onInt y (fun k' b => (decR (selB lt (mkLt b a) (mkLt a b))).bnd fun v => selB (Nat.beq (kindNo k) (kindNo k')) (minMax lt k l (selB v b a)) (R.fail "min kinds")) (R.fail "min")).gives c.ρ m p v q := h
    rcases onInt_cases y (fun k' b => (decR (selB lt (mkLt b a) (mkLt a b))).bnd fun v => selB (Nat.beq (kindNo k) (kindNo k')) (minMax lt k l (selB v b a)) (R.fail "min kinds")) (R.fail "min") with ⟨k', b, rfl, he⟩ | he <;> rw [he] at h
    · obtain ⟨u, p1, h2, h3⟩ := R.gives_bnd h
      obtain ⟨h4, h5⟩ := decR_gives hp h2
      obtain ⟨hk, h6⟩ := R.gives_if h3
      have := kindNo_inj hk; subst this
      obtain ⟨rfl, b0, b1⟩ := VR.int.1 hx
      have hs : kMin k ≤ (selB u b a).den c.ρ ∧ (selB u b a).den c.ρ ≤ kMax k := by cases u <;> exact ⟨by assumption, by assumption⟩
      obtain ⟨h7, z, h8, h9⟩ := minMax_ok h5 hs.1 hs.2 hl' h6
      refine ⟨h7, z, ?_, h9⟩
      rw [List.foldlM_cons, Sem.run_bind]
      have hstep : ((if lt then Builtin.min2 else Builtin.max2) (.int k (a.den c.ρ)) (.int k (b.den c.ρ))).run P w = .ok (.int k ((selB u b a).den c.ρ)) w := by
        cases lt
        · have h4 : (mkLt a b).den c.ρ = u := h4
          rw [mkLt_den] at h4
          cases u
          · have : ¬ a.den c.ρ < b.den c.ρ := of_decide_eq_false h4
            simp [Builtin.max2, this]
          · have : a.den c.ρ < b.den c.ρ := of_decide_eq_true h4
            simp [Builtin.max2, this]
        · have h4 : (mkLt b a).den c.ρ = u := h4
          rw [mkLt_den] at h4
          cases u
          · have : ¬ b.den c.ρ < a.den c.ρ := of_decide_eq_false h4
            simp [Builtin.min2, this]
          · have : b.den c.ρ < a.den c.ρ := of_decide_eq_true h4
            simp [Builtin.min2, this]
      rw [hstep, Result.andThen_ok]; exact h8
    · exact (R.gives_fail h).elim

theorem minMax1_ok (hp : PcR c.ρ p) {lt : Bool} {l : List V} {xs : Array Value} {ts : Array TypeId} {ty : TypeId} {v : V} (hl : VRs c l xs.toList) (h : (minMax1 lt l).gives c.ρ m p v q) :
    PcR c.ρ q ∧ ∃ z, (if lt then Builtin.min_ ts ty xs else Builtin.max_ ts ty xs).run P w = .ok z w ∧ VR c v z := by
  cases l with
  | nil => exact (R.gives_fail h).elim
  | cons x l =>
    obtain ⟨X, ys, hxs, hx, hl'⟩ := VRs.cons_iff.1 hl
    have h : (onInt x (fun k a => minMax lt k l a) (R.fail "min")).gives c.ρ m p v q := h
    rcases onInt_cases x (fun k a => minMax lt k l a) (R.fail "min") with ⟨k, a, rfl, he⟩ | he <;> rw [he] at h
    · obtain ⟨rfl, h0, h1⟩ := VR.int.1 hx
      obtain ⟨h2, z, h3, h4⟩ := minMax_ok (P := P) (w := w) hp h0 h1 hl' h
      refine ⟨h2, z, ?_, h4⟩
      cases lt
      · simpa [Builtin.max_, hxs] using h3
      · simpa [Builtin.min_, hxs] using h3
    · exact (R.gives_fail h).elim

theorem nilCheckR_ok {x v : V} {X : Value} (hx : VR c x X) (h : (nilCheckR P x).gives c.ρ m p v q) : q = p ∧ v = x ∧ ((∃ a, X = .pointer (some a)) ∨ (∃ f a b, X = .func (.func f) a b) ∨ (∃ t y, X = .iface t y) ∨
    ∃ name a as b, X = .func (.method name) as b ∧ nilMeth P name a = true ∧ VRs c a as.toList) := by
  cases x <;> try exact (R.gives_fail (s := "nil") h).elim
  case ptr i o =>
    obtain ⟨rfl, rfl⟩ := R.gives_pure (show (R.pure (V.ptr i o)).gives c.ρ m p v q from h)
    obtain ⟨_, rfl⟩ := VR.ptr.1 hx
    exact ⟨rfl, rfl, .inl ⟨_, rfl⟩⟩
  case sptr i sz e f =>
    obtain ⟨rfl, rfl⟩ := R.gives_pure (show (R.pure (V.sptr i sz e f)).gives c.ρ m p v q from h)
    obtain ⟨_, j, _, rfl⟩ := VR.sptr.1 hx
    exact ⟨rfl, rfl, .inl ⟨_, rfl⟩⟩
  case func fn a b =>
    obtain ⟨as, bs, rfl, ha, _⟩ := VR.func.1 hx
    cases fn <;> try exact (R.gives_fail (s := "nil") h).elim
    case func g =>
      obtain ⟨rfl, rfl⟩ := R.gives_pure (show (R.pure (V.func _ a b)).gives c.ρ m p v q from h)
      exact ⟨rfl, rfl, .inr (.inl ⟨_, _, _, rfl⟩)⟩
    case method name =>
      obtain ⟨h1, h2⟩ := R.gives_if (show (selB (nilMeth P name a) (R.pure (V.func (.method name) a b)) (R.fail "nil")).gives c.ρ m p v q from h)
      obtain ⟨rfl, rfl⟩ := R.gives_pure h2
      exact ⟨rfl, rfl, .inr (.inr (.inr ⟨name, a, as, bs, rfl, h1, ha⟩))⟩
  case iface t y =>
    obtain ⟨y', rfl, _⟩ := VR.iface.1 hx
    obtain ⟨rfl, rfl⟩ := R.gives_pure (show (R.pure (V.iface t y)).gives c.ρ m p v q from h)
    exact ⟨rfl, rfl, .inr (.inr (.inl ⟨_, _, rfl⟩))⟩

theorem methodOf_some' {t : TypeId} {name : String} {r : FuncId × Bool} (h : methodOf P t name = some r) : ∃ i mt, P.info? t = some i ∧ i.methods.find? (·.name == name) = some mt ∧ mt.path.toList = [] ∧ mt.func = some r := by
  unfold methodOf at h
  split at h
  · simp at h
  · rename_i i hi
    split at h
    · simp at h
    · rename_i mt hmt
      split at h
      · rename_i hp; exact ⟨i, mt, hi, hmt, hp, h⟩
      · simp at h

theorem nilAhead_ok {k : Nat} {t : TypeId} {y : Value} {name : String} {r : FuncId × Bool} (h : methodOf P t name = some r) (hr : r.2 = true ∨ notPtr P t = true) : (nilAhead (k + 1) t y name).run P w = .ok (some false) w := by
  obtain ⟨i, mt, hi, hf, hpa, hfn⟩ := methodOf_some' h
  obtain ⟨f, pr⟩ := r
  unfold nilAhead
  simp only [Sem.run_bind, run_info hi, Result.andThen_ok, hf, hpa, followBlind, Sem.run_pure, hfn]
  cases pr with
  | true => rfl
  | false =>
    have hn : notPtr P t = true := hr.resolve_left (by simp)
    unfold notPtr at hn
    split at hn
    · exact nomatch hn
    · rename_i d hnp hu
      simp only [Sem.run_bind, run_und hu, Result.andThen_ok]
      cases d <;> first | rfl | exact absurd rfl (hnp _)
    · exact nomatch hn

theorem nilMeth_ok {name : String} {a : List V} {as : List Value} (ha : VRs c a as) (h : nilMeth P name a = true) : ∃ t y r, as[0]? = some (.iface t y) ∧ methodOf P t name = some r ∧ (r.2 = true ∨ notPtr P t = true) := by
  cases a with
  | nil => exact nomatch h
  | cons v l =>
    obtain ⟨X, ys, rfl, hv, _⟩ := VRs.cons_iff.1 ha
    have h : onIface v (fun t _ => (Option.rec false (fun m => orB m.2 (notPtr P t)) (methodOf P t name) : Bool)) false = true := h
    cases v with
    | iface t u =>
      obtain ⟨y, rfl, _⟩ := VR.iface.1 hv
      have h : (Option.rec false (fun m => orB m.2 (notPtr P t)) (methodOf P t name) : Bool) = true := h
      cases hm : methodOf P t name with
      | none => rw [hm] at h; exact nomatch h
      | some r =>
        rw [hm] at h
        have h : orB r.2 (notPtr P t) = true := h
        rw [orB_eq, Bool.or_eq_true] at h
        exact ⟨t, y, r, rfl, hm, h⟩
    | _ => exact (Bool.false_ne_true h).elim
end ops

end Go.Sy
