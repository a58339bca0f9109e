/-
  What is proved here: the evaluator's operators on strings, and its '==' by the type, do what the model's do.
  Conditions: none.
-/
import Derived.Test.YtcipfcbaclfnhaaSyBin
import Derived.Laws.StructEq
namespace Go.Sy

section strings
variable {P : Program} {c : Cx} {m : Mem} {w : World} {p q : Pc}

theorem BR.nil_iff {bs : List UInt8} : BR c [] bs ↔ bs = [] := by
  unfold BR; cases bs <;> simp

theorem BR.cons_iff {e : E} {l : List E} {bs : List UInt8} : BR c (e :: l) bs ↔ ∃ b r, bs = b :: r ∧ e.den c.ρ = (b.toNat : Int) ∧ BR c l r := by
  unfold BR
  cases bs with
  | nil => simp
  | cons b r =>
    simp only [List.map_cons, List.cons.injEq]
    exact ⟨fun h => ⟨b, r, ⟨rfl, rfl⟩, h.1, h.2⟩, fun ⟨_, _, ⟨e1, e2⟩, h1, h2⟩ => by subst e1 e2; exact ⟨h1, h2⟩⟩

theorem BR.length {l : List E} {bs : List UInt8} (h : BR c l bs) : bs.length = l.length := by
  have := congrArg List.length h; simpa using this.symm

theorem BR.append {l l' : List E} {bs bs' : List UInt8} (h : BR c l bs) (h' : BR c l' bs') : BR c (l ++ l') (bs ++ bs') := by
  unfold BR at *; simp [h, h']

theorem BR.get {l : List E} {bs : List UInt8} {n : Nat} {e : E} (h : BR c l bs) (he : l[n]? = some e) : ∃ b, bs[n]? = some b ∧ e.den c.ρ = (b.toNat : Int) := by
  unfold BR at h
  have h1 : (l.map (E.den c.ρ))[n]? = some (e.den c.ρ) := by simp [he]
  rw [h, List.getElem?_map, Option.map_eq_some_iff] at h1
  obtain ⟨b, hb, hd⟩ := h1
  exact ⟨b, hb, hd.symm⟩

theorem byte_eq {a b : UInt8} : ((a.toNat : Int) = b.toNat) ↔ a = b := by
  rw [Int.natCast_inj, UInt8.toNat_inj]

theorem allE_ok : ∀ {l l' : List E} {p : Pc} {bs bs' : List UInt8} {v : Bool}, PcR c.ρ p → BR c l bs → BR c l' bs' → (allE l l').gives c.ρ m p v q → PcR c.ρ q ∧ v = (bs == bs')
  | [], [], p, bs, bs', v, hp, h1, h2, h => by
    rw [BR.nil_iff] at h1 h2; subst h1 h2
    obtain ⟨rfl, rfl⟩ := R.gives_pure (show (R.pure true).gives c.ρ m p v q from h)
    exact ⟨hp, rfl⟩
  | [], e :: l, p, bs, bs', v, hp, h1, h2, h => by
    rw [BR.nil_iff] at h1; subst h1
    obtain ⟨b, r, rfl, _, _⟩ := BR.cons_iff.1 h2
    obtain ⟨rfl, rfl⟩ := R.gives_pure (show (R.pure false).gives c.ρ m p v q from h)
    exact ⟨hp, rfl⟩
  | e :: l, [], p, bs, bs', v, hp, h1, h2, h => by
    rw [BR.nil_iff] at h2; subst h2
    obtain ⟨b, r, rfl, _, _⟩ := BR.cons_iff.1 h1
    obtain ⟨rfl, rfl⟩ := R.gives_pure (show (R.pure false).gives c.ρ m p v q from h)
    exact ⟨hp, rfl⟩
  | e :: l, e' :: l', p, bs, bs', v, hp, h1, h2, h => by
    obtain ⟨b, r, rfl, hb, hr⟩ := BR.cons_iff.1 h1
    obtain ⟨b', r', rfl, hb', hr'⟩ := BR.cons_iff.1 h2
    obtain ⟨u, p1, h3, h4⟩ := R.gives_bnd h
    obtain ⟨h5, h6⟩ := decR_gives hp h3
    rw [mkEq_den, hb, hb'] at h5
    cases u
    · obtain ⟨rfl, rfl⟩ := R.gives_pure (show (R.pure false).gives c.ρ m p1 v q from h4)
      have : b ≠ b' := fun e => by subst e; simp at h5
      exact ⟨h6, by simp [this]⟩
    · obtain ⟨h7, h8⟩ := allE_ok h6 hr hr' (show (allE l l').gives c.ρ m p1 v q from h4)
      have : b = b' := byte_eq.1 (by simpa using h5)
      exact ⟨h7, by rw [h8, this]; simp⟩

theorem strEq_ok {l l' : List E} {bs bs' : List UInt8} {v : Bool} (hp : PcR c.ρ p) (h1 : BR c l bs) (h2 : BR c l' bs') (h : (strEq l l').gives c.ρ m p v q) : PcR c.ρ q ∧ v = (bs == bs') := by
  rcases R.gives_selB h with ⟨_, h⟩ | ⟨hl, h⟩
  · exact allE_ok hp h1 h2 h
  · obtain ⟨rfl, rfl⟩ := R.gives_pure h
    rw [beq_false, lenL_eq, lenL_eq, ← h1.length, ← h2.length] at hl
    refine ⟨hp, ?_⟩
    symm; rw [beq_eq_false_iff_ne]
    intro e; exact hl (by rw [e])

theorem ltE_ok : ∀ {l l' : List E} {p : Pc} {bs bs' : List UInt8} {v : Bool}, PcR c.ρ p → BR c l bs → BR c l' bs' → (ltE l l').gives c.ρ m p v q → PcR c.ρ q ∧ v = Op.bytesLess bs bs'
  | [], [], p, bs, bs', v, hp, h1, h2, h => by
    rw [BR.nil_iff] at h1 h2; subst h1 h2
    obtain ⟨rfl, rfl⟩ := R.gives_pure (show (R.pure false).gives c.ρ m p v q from h)
    exact ⟨hp, rfl⟩
  | [], e :: l, p, bs, bs', v, hp, h1, h2, h => by
    rw [BR.nil_iff] at h1; subst h1
    obtain ⟨b, r, rfl, _, _⟩ := BR.cons_iff.1 h2
    obtain ⟨rfl, rfl⟩ := R.gives_pure (show (R.pure true).gives c.ρ m p v q from h)
    exact ⟨hp, rfl⟩
  | e :: l, [], p, bs, bs', v, hp, h1, h2, h => by
    rw [BR.nil_iff] at h2; subst h2
    obtain ⟨b, r, rfl, _, _⟩ := BR.cons_iff.1 h1
    obtain ⟨rfl, rfl⟩ := R.gives_pure (show (R.pure false).gives c.ρ m p v q from h)
    exact ⟨hp, by simp [Op.bytesLess]⟩
  | e :: l, e' :: l', p, bs, bs', v, hp, h1, h2, h => by
    obtain ⟨b, r, rfl, hb, hr⟩ := BR.cons_iff.1 h1
    obtain ⟨b', r', rfl, hb', hr'⟩ := BR.cons_iff.1 h2
    obtain ⟨u, p1, h3, h4⟩ := R.gives_bnd h
    obtain ⟨h5, h6⟩ := decR_gives hp h3
    rw [mkLt_den, hb, hb'] at h5
    have hlt : (decide (b < b')) = u := by
      rw [← h5, Bool.eq_iff_iff]; simp [UInt8.lt_iff_toNat_lt]
    cases u
    · have h4 : ((decR (mkEq e e')).bnd fun u => (Bool.rec (R.pure false) (ltE l l') u : R Bool)).gives c.ρ m p1 v q := h4
      obtain ⟨x, p2, h7, h8⟩ := R.gives_bnd h4
      obtain ⟨h9, h10⟩ := decR_gives h6 h7
      rw [mkEq_den, hb, hb'] at h9
      cases x
      · obtain ⟨rfl, rfl⟩ := R.gives_pure (show (R.pure false).gives c.ρ m p2 v q from h8)
        have : b ≠ b' := fun e => by subst e; simp at h9
        exact ⟨h10, by simp [Op.bytesLess, hlt, this]⟩
      · obtain ⟨h11, h12⟩ := ltE_ok h10 hr hr' (show (ltE l l').gives c.ρ m p2 v q from h8)
        have : b = b' := byte_eq.1 (by simpa using h9)
        subst this
        exact ⟨h11, by simp [Op.bytesLess, h12]⟩
    · obtain ⟨rfl, rfl⟩ := R.gives_pure (show (R.pure true).gives c.ρ m p1 v q from h4)
      exact ⟨h6, by simp [Op.bytesLess, hlt]⟩

theorem litB_gives {x : R Bool} {v : V} (h : (litB x).gives c.ρ m p v q) : ∃ u, v = .bool (.lit u) ∧ x.gives c.ρ m p u q := by
  obtain ⟨u, p1, h1, h2⟩ := R.gives_bnd h
  obtain ⟨rfl, rfl⟩ := R.gives_pure h2
  exact ⟨u, rfl, h1⟩

theorem litNB_gives {x : R Bool} {v : V} (h : (litNB x).gives c.ρ m p v q) : ∃ u, v = .bool (.lit (!u)) ∧ x.gives c.ρ m p u q := by
  obtain ⟨u, p1, h1, h2⟩ := R.gives_bnd h
  obtain ⟨rfl, rfl⟩ := R.gives_pure h2
  exact ⟨u, by rw [notB_eq], h1⟩

/-- the operators on two strings -/
theorem strOp_ok (hp : PcR c.ρ p) {op : BinOp} {t : TypeId} {a b : List E} {x y : ByteArray} {v : V} (ha : BR c a x.data.toList) (hb : BR c b y.data.toList)
    (h : (strOp op a b).gives c.ρ m p v q) : PcR c.ρ q ∧ ∃ z, (binOp op t (.string x) (.string y)).run P w = .ok z w ∧ VR c v z := by
  have ex : x.toList = x.data.toList := ByteArray.toList_eq x
  have ey : y.toList = y.data.toList := ByteArray.toList_eq y
  cases op
  case add =>
    obtain ⟨h1, h2⟩ := R.gives_if h
    obtain ⟨rfl, rfl⟩ := R.gives_pure h2
    rw [ble_iff, lenL_eq, lenL_eq, ← ha.length, ← hb.length] at h1
    refine ⟨hp, .string (x ++ y), ?_, VR.str.2 ⟨_, rfl, ?_⟩⟩
    · rw [binOp_string_add]
      refine run_string_add_sum (P := P) (w := w) x y ?_
      have e1 : x.size = x.data.toList.length := by simp
      have e2 : y.size = y.data.toList.length := by simp
      have h1 : x.data.toList.length + y.data.toList.length ≤ 4611686018427387904 := h1
      omega
    · rw [catE_eq]
      have : (x ++ y).data.toList = x.data.toList ++ y.data.toList := by simp
      rw [this]; exact ha.append hb
  case eql =>
    obtain ⟨u, rfl, h1⟩ := litB_gives h
    obtain ⟨h2, rfl⟩ := strEq_ok hp ha hb h1
    exact ⟨h2, _, by rw [binOp_string_eql]; rfl, by rw [ex, ey]; exact VR.lit⟩
  case neq =>
    obtain ⟨u, rfl, h1⟩ := litNB_gives h
    obtain ⟨h2, rfl⟩ := strEq_ok hp ha hb h1
    exact ⟨h2, _, by rw [binOp_string_neq]; rfl, by rw [ex, ey]; exact VR.lit⟩
  case lss =>
    obtain ⟨u, rfl, h1⟩ := litB_gives h
    obtain ⟨h2, rfl⟩ := ltE_ok hp ha hb h1
    exact ⟨h2, _, by rw [binOp_string_lss]; rfl, by rw [ex, ey]; exact VR.lit⟩
  case geq =>
    obtain ⟨u, rfl, h1⟩ := litNB_gives h
    obtain ⟨h2, rfl⟩ := ltE_ok hp ha hb h1
    exact ⟨h2, .bool (!(Op.bytesLess x.data.toList y.data.toList)), by simp [binOp, Op.stringOp, ex, ey], VR.lit⟩
  case gtr =>
    obtain ⟨u, rfl, h1⟩ := litB_gives h
    obtain ⟨h2, rfl⟩ := ltE_ok hp hb ha h1
    exact ⟨h2, .bool (!(Op.bytesLess x.data.toList y.data.toList || x.data.toList == y.data.toList)), by simp [binOp, Op.stringOp, ex, ey], by rw [tri x.data.toList y.data.toList]; exact VR.lit⟩
  case leq =>
    obtain ⟨u, rfl, h1⟩ := litNB_gives h
    obtain ⟨h2, rfl⟩ := ltE_ok hp hb ha h1
    exact ⟨h2, .bool (Op.bytesLess x.data.toList y.data.toList || x.data.toList == y.data.toList), by simp [binOp, Op.stringOp, ex, ey], by rw [tri x.data.toList y.data.toList, Bool.not_not]; exact VR.lit⟩
  all_goals exact (R.gives_fail h).elim
where
  tri : ∀ a b : List UInt8, Op.bytesLess b a = !(Op.bytesLess a b || a == b)
    | [], [] => by simp [Op.bytesLess]
    | [], b :: y => by simp [Op.bytesLess]
    | a :: x, [] => by simp [Op.bytesLess]
    | a :: x, b :: y => by
      simp only [Op.bytesLess, tri x y]
      by_cases h1 : a < b
      · have h2 : ¬ b < a := fun h => by rw [UInt8.lt_iff_toNat_lt] at *; omega
        have h3 : b ≠ a := fun h => by subst h; exact h2 h1
        simp [h1, h2, h3]
      · by_cases h2 : a = b
        · subst h2; simp [h1]
        · have h3 : b < a := by
            rw [UInt8.lt_iff_toNat_lt] at *
            have : a.toNat ≠ b.toNat := fun h => h2 (UInt8.toNat_inj.1 h)
            omega
          simp [h1, h2, h3]
end strings

/-! ### '==' -/

section eq
variable {P : Program} {c : Cx} {m : Mem} {w : World} {p q : Pc}

/-- what '==' of the evaluator's says is what '==' of the model's says, at every depth from n on -/
def EqOk (P : Program) (c : Cx) (m : Mem) (w : World) (n : Nat) (f : TypeId → V → V → R Bool) : Prop :=
  ∀ (t : TypeId) (x y : V) (X Y : Value) (p q : Pc) (v : Bool), PcR c.ρ p → VR c x X → VR c y Y → (f t x y).gives c.ρ m p v q → PcR c.ρ q ∧ ∀ k, n ≤ k → (Op.equalIn k t X Y).run P w = .ok v w

theorem eqFields_ok {n : Nat} {f : TypeId → V → V → R Bool} (hf : EqOk P c m w n f) {xs ys : List V} {Xs Ys : Array Value} (hx : VRs c xs Xs.toList) (hy : VRs c ys Ys.toList) :
    ∀ {fs : List Field} {p : Pc} {v : Bool}, PcR c.ρ p → (eqFields P f xs ys fs).gives c.ρ m p v q → PcR c.ρ q ∧ ∀ k, n ≤ k → (Op.eqFields k Xs Ys fs).run P w = .ok v w
  | [], p, v, hp, h => by
    obtain ⟨rfl, rfl⟩ := R.gives_pure (show (R.pure true).gives c.ρ m p v q from h)
    exact ⟨hp, fun k _ => by simp [Op.eqFields]⟩
  | fd :: fs, p, v, hp, h => by
    have h : (selB (blankF fd) (R.fail "a blank field") ((eqOpt f fd.type (partV P fd.type xs fd.offset) (partV P fd.type ys fd.offset)).bnd fun v => (Bool.rec (R.pure false) (eqFields P f xs ys fs) v : R Bool))).gives c.ρ m p v q := h
    rcases R.gives_selB h with ⟨_, h⟩ | ⟨hb, h⟩
    · exact (R.gives_fail h).elim
    · have hb : ¬ fd.name = "_" := by simpa [blankF] using hb
      obtain ⟨u, p1, h1, h2⟩ := R.gives_bnd h
      unfold eqOpt at h1
      cases ha : partV P fd.type xs fd.offset with
      | none => rw [ha] at h1; exact (R.gives_fail h1).elim
      | some a =>
        rw [ha] at h1
        cases hb' : partV P fd.type ys fd.offset with
        | none => rw [hb'] at h1; exact (R.gives_fail h1).elim
        | some b =>
          rw [hb'] at h1
          have h1 : (f fd.type a b).gives c.ρ m p u p1 := h1
          obtain ⟨A, hA, rA⟩ := partV_ok (w := w) hx ha
          obtain ⟨B, hB, rB⟩ := partV_ok (w := w) hy hb'
          obtain ⟨h3, h4⟩ := hf _ _ _ _ _ _ _ _ hp rA rB h1
          cases u
          · obtain ⟨rfl, rfl⟩ := R.gives_pure (show (R.pure false).gives c.ρ m p1 v q from h2)
            exact ⟨h3, fun k hk => by simp [Op.eqFields, hb, hA, hB, h4 k hk]⟩
          · obtain ⟨h5, h6⟩ := eqFields_ok hf hx hy h3 (show (eqFields P f xs ys fs).gives c.ρ m p1 v q from h2)
            exact ⟨h5, fun k hk => by simp [Op.eqFields, hb, hA, hB, h4 k hk, h6 k hk]⟩

/-- the elements of an array, one by one -/
def eqElemsM (k : Nat) (xs ys : Array Value) (elem n : Nat) : List Nat → Sem Bool
  | [] => pure true
  | i :: l => do
    let a ← part elem xs (i * n)
    let b ← part elem ys (i * n)
    let r ← Op.equalIn k elem a b
    if (!r) = true then pure false else eqElemsM k xs ys elem n l

theorem run_equalIn_arr (d : Nat) (t : TypeId) (len elem n : Nat) (xs ys : Array Value) (ht : P.underlying t = some (.array len elem)) (hs : szOf P elem = some n) :
    (Op.equalIn (d + 1) t (.agg xs) (.agg ys)).run P w = (eqElemsM d xs ys elem n (List.range' 0 len)).run P w := by
  simp only [Op.equalIn, Sem.run_bind, run_und ht, Result.andThen_ok, run_size hs, Std.Legacy.Range.forIn_eq_forIn_range', Std.Legacy.Range.size, Nat.sub_zero, Nat.add_sub_cancel, Nat.div_one]
  generalize List.range' 0 len = l
  clear ht
  induction l generalizing w with
  | nil => simp [eqElemsM]
  | cons i l ih =>
    simp only [List.forIn_cons, eqElemsM, Sem.run_bind, Sem.run_ite]
    generalize (part elem xs (i * n)).run P w = r1
    cases r1 with
    | ok a w1 =>
      simp only [Result.andThen_ok]
      generalize (part elem ys (i * n)).run P w1 = r2
      cases r2 with
      | ok b w2 =>
        simp only [Result.andThen_ok]
        generalize (Op.equalIn d elem a b).run P w2 = r3
        cases r3 with
        | ok r w3 =>
          cases r
          · simp only [Result.andThen_ok, Bool.not_false, if_true, Sem.run_pure]
          · simp only [Result.andThen_ok, Bool.not_true, Bool.false_eq_true, if_false, Sem.run_pure]
            exact ih
        | halt x w3 => simp [Result.andThen]
      | halt x w2 => simp [Result.andThen]
    | halt x w1 => simp [Result.andThen]

theorem eqElems_ok {n : Nat} {f : TypeId → V → V → R Bool} (hf : EqOk P c m w n f) {xs ys : List V} {Xs Ys : Array Value} (hx : VRs c xs Xs.toList) (hy : VRs c ys Ys.toList) {elem sz : Nat} :
    ∀ {len i : Nat} {p : Pc} {v : Bool}, PcR c.ρ p → (eqElems P f xs ys elem sz len i).gives c.ρ m p v q → PcR c.ρ q ∧ ∀ k, n ≤ k → (eqElemsM k Xs Ys elem sz (List.range' i len)).run P w = .ok v w
  | 0, i, p, v, hp, h => by
    obtain ⟨rfl, rfl⟩ := R.gives_pure (show (R.pure true).gives c.ρ m p v q from h)
    exact ⟨hp, fun k _ => by simp [eqElemsM]⟩
  | len + 1, i, p, v, hp, h => by
    have h : ((eqOpt f elem (partV P elem xs (i * sz)) (partV P elem ys (i * sz))).bnd fun v => (Bool.rec (R.pure false) (eqElems P f xs ys elem sz len (i + 1)) v : R Bool)).gives c.ρ m p v q := h
    obtain ⟨u, p1, h1, h2⟩ := R.gives_bnd h
    unfold eqOpt at h1
    cases ha : partV P elem xs (i * sz) with
    | none => rw [ha] at h1; exact (R.gives_fail h1).elim
    | some a =>
      rw [ha] at h1
      cases hb' : partV P elem ys (i * sz) with
      | none => rw [hb'] at h1; exact (R.gives_fail h1).elim
      | some b =>
        rw [hb'] at h1
        have h1 : (f elem a b).gives c.ρ m p u p1 := h1
        obtain ⟨A, hA, rA⟩ := partV_ok (w := w) hx ha
        obtain ⟨B, hB, rB⟩ := partV_ok (w := w) hy hb'
        obtain ⟨h3, h4⟩ := hf _ _ _ _ _ _ _ _ hp rA rB h1
        cases u
        · obtain ⟨rfl, rfl⟩ := R.gives_pure (show (R.pure false).gives c.ρ m p1 v q from h2)
          exact ⟨h3, fun k hk => by simp [List.range'_succ, eqElemsM, hA, hB, h4 k hk]⟩
        · obtain ⟨h5, h6⟩ := eqElems_ok hf hx hy h3 (show (eqElems P f xs ys elem sz len (i + 1)).gives c.ρ m p1 v q from h2)
          exact ⟨h5, fun k hk => by simp [List.range'_succ, eqElemsM, hA, hB, h4 k hk, h6 k hk]⟩
end eq

end Go.Sy
