/-
  What is proved here: the evaluator's operators on numbers and strings, and its '==', do what the model's do.
  Conditions: none.
-/
import Derived.Test.YtcipfcbaclfnhaaSyRead
import Derived.Test.YtcipfcbaclfnhaaSyCan
import Derived.Laws.Strings
import Derived.Laws.Concat
namespace Go.Sy

/-! ### numbers -/

theorem limN_two (k : IntKind) : ∃ e, limN k = 2 ^ e ∧ e ≤ k.bits := by
  cases k
  · exact ⟨7, rfl, by decide⟩
  · exact ⟨15, rfl, by decide⟩
  · exact ⟨31, rfl, by decide⟩
  · exact ⟨63, rfl, by decide⟩
  · exact ⟨8, rfl, by decide⟩
  · exact ⟨16, rfl, by decide⟩
  · exact ⟨32, rfl, by decide⟩
  · exact ⟨64, rfl, by decide⟩

theorem wrap_nat (k : IntKind) (n : Nat) (h : n < limN k) : k.wrap (n : Int) = n :=
  wrap_in k n (by cases k <;> simp [kMin, IntKind.signed, limN]) (by simp only [kMax]; omega)

theorem ofInt_nat (k : IntKind) (a : Nat) (h : a < limN k) : (BitVec.ofInt k.bits (a : Int)).toNat = a := by
  obtain ⟨e, he, hb⟩ := limN_two k
  have : a < 2 ^ k.bits := Nat.lt_of_lt_of_le (he ▸ h) (Nat.pow_le_pow_right (by omega) hb)
  simp [Nat.mod_eq_of_lt this]

theorem bitsN_eq (op : BinOp) (k : IntKind) (a b : Nat) (ha : a < limN k) (hb : b < limN k) : bitsZ op k a b = (bitsN op a b : Nat) := by
  obtain ⟨e, he, _⟩ := limN_two k
  have ea := ofInt_nat k a ha
  have eb := ofInt_nat k b hb
  have hand : a &&& b < limN k := Nat.lt_of_le_of_lt Nat.and_le_left ha
  have hxor : ∀ x y : Nat, x < limN k → y < limN k → x ^^^ y < limN k := fun x y hx hy => by rw [he] at hx hy ⊢; exact Nat.xor_lt_two_pow hx hy
  have hor : a ||| b < limN k := by rw [he] at ha hb ⊢; exact Nat.or_lt_two_pow ha hb
  have hnot : ∀ x y : BitVec k.bits, x &&& ~~~y = x ^^^ (x &&& y) := fun x y => by
    apply BitVec.eq_of_getLsbD_eq
    intro i hi
    simp only [BitVec.getLsbD_and, BitVec.getLsbD_not, BitVec.getLsbD_xor, hi, decide_true, Bool.true_and]
    cases x.getLsbD i <;> cases y.getLsbD i <;> rfl
  have rest : bitsZ .andNot k a b = ((a ^^^ (a &&& b) : Nat) : Int) := by
    show k.wrap ((BitVec.ofInt k.bits a &&& ~~~BitVec.ofInt k.bits b).toNat : Int) = _
    rw [hnot, BitVec.toNat_xor, BitVec.toNat_and, ea, eb]
    exact wrap_nat k _ (hxor _ _ ha hand)
  cases op
  case and => show k.wrap _ = _; rw [BitVec.toNat_and, ea, eb]; exact wrap_nat k _ hand
  case or => show k.wrap _ = _; rw [BitVec.toNat_or, ea, eb]; exact wrap_nat k _ hor
  case xor => show k.wrap _ = _; rw [BitVec.toNat_xor, ea, eb]; exact wrap_nat k _ (hxor _ _ ha hb)
  all_goals exact rest

theorem bitsF_eq (op : BinOp) (k : IntKind) (x y : Int) : bitsF op k x y = bitsZ op k x y := by
  cases x with
  | negSucc a => rfl
  | ofNat a =>
    cases y with
    | negSucc b => rfl
    | ofNat b =>
      show (Bool.rec (bitsZ op k (Int.ofNat a) (Int.ofNat b)) (Int.ofNat (bitsN op a b)) (andB (Nat.blt a (limN k)) (Nat.blt b (limN k))) : Int) = _
      cases h : andB (Nat.blt a (limN k)) (Nat.blt b (limN k))
      · rfl
      · simp only [andB_eq, Bool.and_eq_true, blt_iff] at h
        exact (bitsN_eq op k a b h.1 h.2).symm

theorem bitsZ_range (op : BinOp) (k : IntKind) (x y : Int) : kMin k ≤ bitsZ op k x y ∧ bitsZ op k x y ≤ kMax k := by
  cases op <;> exact ⟨wrap_lo k _, wrap_hi k _⟩

theorem shlZ_eq (k : IntKind) (x y : Int) : shlZ k x y = k.wrap (x * 2 ^ (min y.toNat k.bits)) := by
  cases x with
  | negSucc a => rfl
  | ofNat a =>
    show wrapZ k (Int.ofNat (a * 2 ^ (min y.toNat k.bits))) = _
    rw [wrapZ_eq]; congr 1

theorem shrZ_eq (k : IntKind) (x y : Int) : shrZ k x y = x.fdiv (2 ^ (min y.toNat k.bits)) := by
  cases x with
  | negSucc a => rfl
  | ofNat a =>
    show Int.ofNat (a / 2 ^ (min y.toNat k.bits)) = _
    rw [Int.fdiv_eq_ediv_of_nonneg _ (Int.pow_nonneg (by omega))]
    simp

theorem kMin_le (k : IntKind) : kMin k ≤ 0 := by cases k <;> simp [kMin, IntKind.signed, limN]
theorem kMax_ge (k : IntKind) : 0 ≤ kMax k := by cases k <;> simp [kMax, limN]

theorem binZ_range (op : BinOp) (k : IntKind) (x y : Int) (h0 : kMin k ≤ x) (h1 : x ≤ kMax k) : kMin k ≤ binZ op k x y ∧ binZ op k x y ≤ kMax k := by
  have hmin := kMin_le k
  have hmax := kMax_ge k
  have hw : ∀ z, kMin k ≤ wrapZ k z ∧ wrapZ k z ≤ kMax k := fun z => by rw [wrapZ_eq]; exact ⟨wrap_lo k z, wrap_hi k z⟩
  have hb : ∀ op, kMin k ≤ bitsF op k x y ∧ bitsF op k x y ≤ kMax k := fun op => by rw [bitsF_eq]; exact bitsZ_range op k x y
  cases op
  case add => exact hw _
  case sub => exact hw _
  case mul => exact hw _
  case quo => exact hw _
  case rem =>
    show kMin k ≤ x.tmod y ∧ x.tmod y ≤ kMax k
    rcases Int.le_total 0 x with hx | hx
    · have a := Int.tmod_nonneg y hx
      have b : x.tmod y ≤ x := by
        have h := Int.natAbs_tmod x y
        have : x.natAbs % y.natAbs ≤ x.natAbs := Nat.mod_le _ _
        omega
      omega
    · have h := Int.natAbs_tmod x y
      have h' : x.natAbs % y.natAbs ≤ x.natAbs := Nat.mod_le _ _
      have a : x.tmod y ≤ 0 := by
        have := Int.tmod_nonneg y (show 0 ≤ -x by omega)
        rw [Int.neg_tmod] at this; omega
      omega
  case and => exact hb _
  case or => exact hb _
  case xor => exact hb _
  case andNot => exact hb _
  case shl => show kMin k ≤ shlZ k x y ∧ shlZ k x y ≤ kMax k; rw [shlZ_eq]; exact ⟨wrap_lo k _, wrap_hi k _⟩
  case shr =>
    show kMin k ≤ shrZ k x y ∧ shrZ k x y ≤ kMax k
    rw [shrZ_eq, Int.fdiv_eq_ediv_of_nonneg _ (Int.pow_nonneg (by omega))]
    have hp : (1 : Int) ≤ 2 ^ (min y.toNat k.bits) := by exact_mod_cast Nat.one_le_two_pow
    generalize (2 : Int) ^ (min y.toNat k.bits) = d at *
    rcases Int.le_total 0 x with hx | hx
    · have := Int.ediv_nonneg hx (show 0 ≤ d by omega)
      have := Int.ediv_le_self d hx
      omega
    · have a : x / d ≤ 0 := by
        have := Int.ediv_le_ediv (show 0 < d by omega) hx
        simpa using this
      have b : x ≤ x / d := by
        rw [Int.le_ediv_iff_mul_le (by omega)]
        have := Int.mul_le_mul_of_nonneg_left hp (show 0 ≤ -x by omega)
        simp only [Int.neg_mul, Int.mul_one] at this
        omega
      omega
  all_goals exact ⟨hmin, hmax⟩

theorem mkBin_den (ρ : Nat → Int) (op : BinOp) (k : IntKind) (a b : E) : (mkBin op k a b).den ρ = binZ op k (a.den ρ) (b.den ρ) := by
  unfold mkBin
  cases a <;> try rfl
  cases b <;> rfl

section ops
variable {P : Program} {c : Cx} {m : Mem} {w : World} {p q : Pc}

theorem VR.mkInt {k : IntKind} {op : BinOp} {a b : E} (h0 : kMin k ≤ a.den c.ρ) (h1 : a.den c.ρ ≤ kMax k) : VR c (.int k (mkBin op k a b)) (.int k (binZ op k (a.den c.ρ) (b.den c.ρ))) :=
  VR.int.2 ⟨by rw [mkBin_den], by rw [mkBin_den]; exact binZ_range op k _ _ h0 h1⟩

theorem canR_ok (hp : PcR c.ρ p) {op : BinOp} {k : IntKind} {a b : E} {v : V} (h0 : kMin k ≤ a.den c.ρ) (h1 : a.den c.ρ ≤ kMax k) (h : (canR k (mkBin op k a b)).gives c.ρ m p v q) :
    q = p ∧ VR c v (.int k (binZ op k (a.den c.ρ) (b.den c.ρ))) := by
  have hm : (mkCan k (mkBin op k a b)).gives c.ρ m p v q → q = p ∧ VR c v (.int k (binZ op k (a.den c.ρ) (b.den c.ρ))) := fun h => by
    have h := (show (T.ret (⟨.int k (canon p.rng (mkBin op k a b)), p⟩ : Rp V)).out c.ρ = some ⟨v, q⟩ from h)
    have h := Option.some.inj h
    obtain ⟨rfl, rfl⟩ : V.int k (canon p.rng (mkBin op k a b)) = v ∧ p = q := ⟨congrArg Rp.v h, congrArg Rp.p h⟩
    exact ⟨rfl, VR.int.2 ⟨by rw [canon_den hp.rng, mkBin_den], by rw [canon_den hp.rng, mkBin_den]; exact binZ_range op k _ _ h0 h1⟩⟩
  unfold canR at h
  rcases onN_cases (mkBin op k a b) (fun _ => R.pure (V.int k (mkBin op k a b))) (mkCan k (mkBin op k a b)) with ⟨z, _, he⟩ | he <;> rw [he] at h
  · obtain ⟨rfl, rfl⟩ := R.gives_pure h
    exact ⟨rfl, VR.mkInt h0 h1⟩
  · exact hm h

/-- the operators on two numbers of one kind -/
theorem intOp_ok (hp : PcR c.ρ p) {op : BinOp} {k : IntKind} {t : TypeId} {a b : E} {v : V} (h0 : kMin k ≤ a.den c.ρ) (h1 : a.den c.ρ ≤ kMax k)
    (h : (intOp op k a b).gives c.ρ m p v q) : PcR c.ρ q ∧ ∃ z, (binOp op t (.int k (a.den c.ρ)) (.int k (b.den c.ρ))).run P w = .ok z w ∧ VR c v z := by
  have har : ∀ {op : BinOp}, (arith op k a b).gives c.ρ m p v q → (binOp op t (.int k (a.den c.ρ)) (.int k (b.den c.ρ))) = pure (.int k (binZ op k (a.den c.ρ) (b.den c.ρ))) →
      PcR c.ρ q ∧ ∃ z, (binOp op t (.int k (a.den c.ρ)) (.int k (b.den c.ρ))).run P w = .ok z w ∧ VR c v z := by
    intro op h he
    obtain ⟨rfl, rfl⟩ := R.gives_pure h
    exact ⟨hp, _, by rw [he]; rfl, VR.mkInt h0 h1⟩
  have harC : ∀ {op : BinOp}, (arithC op k a b).gives c.ρ m p v q → (binOp op t (.int k (a.den c.ρ)) (.int k (b.den c.ρ))) = pure (.int k (binZ op k (a.den c.ρ) (b.den c.ρ))) →
      PcR c.ρ q ∧ ∃ z, (binOp op t (.int k (a.den c.ρ)) (.int k (b.den c.ρ))).run P w = .ok z w ∧ VR c v z := by
    intro op h he
    obtain ⟨rfl, hv⟩ := canR_ok hp h0 h1 h
    exact ⟨hp, _, by rw [he]; rfl, hv⟩
  have hdiv : ∀ {op : BinOp}, (divide op k a b).gives c.ρ m p v q → (b.den c.ρ ≠ 0 → (binOp op t (.int k (a.den c.ρ)) (.int k (b.den c.ρ))) = pure (.int k (binZ op k (a.den c.ρ) (b.den c.ρ)))) →
      PcR c.ρ q ∧ ∃ z, (binOp op t (.int k (a.den c.ρ)) (.int k (b.den c.ρ))).run P w = .ok z w ∧ VR c v z := by
    intro op h he
    obtain ⟨u, p1, h2, h3⟩ := R.gives_bnd h
    obtain ⟨h4, h5⟩ := decR_gives hp h2
    cases u
    · obtain ⟨rfl, hv⟩ := canR_ok h5 h0 h1 (show (canR k (mkBin op k a b)).gives c.ρ m p1 v q from h3)
      rw [mkEq_den] at h4
      exact ⟨h5, _, by rw [he (by simpa [E.den] using h4)]; rfl, hv⟩
    · exact (R.gives_fail h3).elim
  have hcmp : ∀ {op : BinOp}, (compared op k a b).gives c.ρ m p v q → op = .eql ∨ op = .neq ∨ op = .lss ∨ op = .leq ∨ op = .gtr ∨ op = .geq →
      (binOp op t (.int k (a.den c.ρ)) (.int k (b.den c.ρ))) = pure (.bool (cmpZ op (a.den c.ρ) (b.den c.ρ))) →
      PcR c.ρ q ∧ ∃ z, (binOp op t (.int k (a.den c.ρ)) (.int k (b.den c.ρ))).run P w = .ok z w ∧ VR c v z := by
    intro op h hop he
    obtain ⟨rfl, rfl⟩ := R.gives_pure h
    exact ⟨hp, _, by rw [he]; rfl, VR.bool.2 (by rw [mkCmp_den _ _ _ _ hop])⟩
  cases op
  case add => exact harC h (by simp [binOp, Op.intArith, binZ, wrapZ_eq])
  case sub => exact har h (by simp [binOp, Op.intArith, binZ, wrapZ_eq, Int.sub_eq_add_neg]; rfl)
  case mul => exact harC h (by simp [binOp, Op.intArith, binZ, wrapZ_eq])
  case and => exact harC h (by simp [binOp, Op.intBits, binZ, bitsF_eq, bitsZ])
  case or => exact harC h (by simp [binOp, Op.intBits, binZ, bitsF_eq, bitsZ])
  case xor => exact har h (by simp [binOp, Op.intBits, binZ, bitsF_eq, bitsZ])
  case andNot => exact har h (by simp [binOp, Op.intBits, binZ, bitsF_eq, bitsZ])
  case quo => exact hdiv h (fun hb => by simp [binOp, Op.intDiv, hb, binZ, wrapZ_eq])
  case rem => exact hdiv h (fun hb => by simp [binOp, Op.intDiv, hb, binZ])
  case eql => exact hcmp h (by simp) (by simp [binOp, Op.intCmp, cmpZ])
  case neq => exact hcmp h (by simp) (by simp [binOp, Op.intCmp, cmpZ])
  case lss => exact hcmp h (by simp) (by simp [binOp, Op.intCmp, cmpZ])
  case leq => exact hcmp h (by simp) (by simp [binOp, Op.intCmp, cmpZ])
  case gtr => exact hcmp h (by simp) (by simp [binOp, Op.intCmp, cmpZ])
  case geq => exact hcmp h (by simp) (by simp [binOp, Op.intCmp, cmpZ])
  case shl => exact (R.gives_fail h).elim
  case shr => exact (R.gives_fail h).elim

theorem splitN_gives {e v : E} : ∀ {n : Nat} {z : Int} {p q : Pc}, PcR c.ρ p → (splitN e n z).gives c.ρ m p v q → v.den c.ρ = e.den c.ρ ∧ PcR c.ρ q
  | 0, z, p, q, hp, h => by
    obtain ⟨rfl, rfl⟩ := R.gives_pure (show (R.pure e).gives c.ρ m p v q from h)
    exact ⟨rfl, hp⟩
  | n + 1, z, p, q, hp, h => by
    obtain ⟨u, p1, h2, h3⟩ := R.gives_bnd h
    obtain ⟨h4, h5⟩ := decR_gives hp h2
    cases u
    · exact splitN_gives h5 (show (splitN e n (Int.add z 1)).gives c.ρ m p1 v q from h3)
    · obtain ⟨rfl, rfl⟩ := R.gives_pure (show (R.pure (E.n z)).gives c.ρ m p1 v q from h3)
      rw [mkEq_den] at h4
      exact ⟨(beq_iff_eq.1 h4).symm, h5⟩

theorem splitE_gives (hp : PcR c.ρ p) {e v : E} (h : (splitE e).gives c.ρ m p v q) : v.den c.ρ = e.den c.ρ ∧ PcR c.ρ q := by
  have hpure : (R.pure e).gives c.ρ m p v q → v.den c.ρ = e.den c.ρ ∧ PcR c.ρ q := fun h => by
    obtain ⟨rfl, rfl⟩ := R.gives_pure h
    exact ⟨rfl, hp⟩
  unfold splitE at h
  rcases onN_cases e (fun _ => R.pure e) (splitS e) with ⟨z, _, he⟩ | he <;> rw [he] at h
  · exact hpure h
  · cases hi : e.iv p.rng with
    | none =>
      have h : (Option.rec (R.pure e m p) (fun r => selB (leZ r.2 (Int.add r.1 40)) (splitN e (Int.toNat (Int.add (Int.sub r.2 r.1) 1)) r.1 m p) (R.pure e m p)) (e.iv p.rng) : T (Rp E)).out c.ρ = some ⟨v, q⟩ := h
      rw [hi] at h
      exact hpure h
    | some r =>
      have h : (Option.rec (R.pure e m p) (fun r => selB (leZ r.2 (Int.add r.1 40)) (splitN e (Int.toNat (Int.add (Int.sub r.2 r.1) 1)) r.1 m p) (R.pure e m p)) (e.iv p.rng) : T (Rp E)).out c.ρ = some ⟨v, q⟩ := h
      rw [hi] at h
      have h : (selB (leZ r.2 (Int.add r.1 40)) (splitN e (Int.toNat (Int.add (Int.sub r.2 r.1) 1)) r.1 m p) (R.pure e m p)).out c.ρ = some ⟨v, q⟩ := h
      cases hb : leZ r.2 (Int.add r.1 40) with
      | true => rw [hb] at h; exact splitN_gives hp h
      | false => rw [hb] at h; exact hpure h

theorem splitIx_ok (hp : PcR c.ρ p) {x ix v : V} {I : Value} (hi : VR c ix I) (h : (splitIx x ix).gives c.ρ m p v q) : PcR c.ρ q ∧ VR c v I := by
  have hpure : (R.pure ix).gives c.ρ m p v q → PcR c.ρ q ∧ VR c v I := fun h => by
    obtain ⟨rfl, rfl⟩ := R.gives_pure h
    exact ⟨hp, hi⟩
  unfold splitIx at h
  cases hk : knownV x with
  | false => rw [hk] at h; exact hpure h
  | true =>
    rw [hk] at h
    have h : (onInt ix (fun k e => (splitE e).bnd fun e => R.pure (V.int k e)) (R.pure ix)).gives c.ρ m p v q := h
    rcases onInt_cases ix (fun k e => (splitE e).bnd fun e => R.pure (V.int k e)) (R.pure ix) with ⟨k, e, rfl, he⟩ | he <;> rw [he] at h
    · obtain ⟨e', p1, h1, h2⟩ := R.gives_bnd h
      obtain ⟨h3, h4⟩ := splitE_gives hp h1
      obtain ⟨rfl, rfl⟩ := R.gives_pure h2
      obtain ⟨rfl, g0, g1⟩ := VR.int.1 hi
      exact ⟨h4, VR.int.2 ⟨by rw [h3], by rw [h3]; exact g0, by rw [h3]; exact g1⟩⟩
    · exact hpure h

theorem shiftR_ok (hp : PcR c.ρ p) {op : BinOp} {k k' : IntKind} {t : TypeId} {a b : E} {v : V} (hop : isShift op = true) (h0 : kMin k ≤ a.den c.ρ) (h1 : a.den c.ρ ≤ kMax k)
    (h : (shiftR op k a b).gives c.ρ m p v q) : PcR c.ρ q ∧ ∃ z, (binOp op t (.int k (a.den c.ρ)) (.int k' (b.den c.ρ))).run P w = .ok z w ∧ VR c v z := by
  obtain ⟨u, p1, h2, h3⟩ := R.gives_bnd h
  obtain ⟨h4, h5⟩ := decR_gives hp h2
  cases u
  · obtain ⟨b', p2, h6, h3⟩ := R.gives_bnd (show ((splitE b).bnd fun b => canR k (mkBin op k a b)).gives c.ρ m p1 v q from h3)
    obtain ⟨h7, h8⟩ := splitE_gives h5 h6
    obtain ⟨rfl, hv⟩ := canR_ok h8 h0 h1 (show (canR k (mkBin op k a b')).gives c.ρ m p2 v q from h3)
    rw [mkLt_den] at h4
    have hb : ¬ b.den c.ρ < 0 := of_decide_eq_false h4
    rw [← h7] at hb ⊢
    refine ⟨h8, _, ?_, hv⟩
    cases op
    case shl => simp [binOp, Op.shift, hb, binZ, shlZ_eq]
    case shr => simp [binOp, Op.shift, hb, binZ, shrZ_eq]
    all_goals exact (Bool.false_ne_true hop).elim
  · exact (R.gives_fail h3).elim
end ops

end Go.Sy
