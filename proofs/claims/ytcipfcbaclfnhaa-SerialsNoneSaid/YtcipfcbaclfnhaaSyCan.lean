/-
  What is proved here: a term made anew out of its bits has the same value.
  Conditions: none.
-/
import Derived.Test.YtcipfcbaclfnhaaSyRel
namespace Go.Sy

section bits
variable (ρ : Nat → Int)

noncomputable def Bt.val : Bt → Nat
  | .z _ => 0
  | .o w => 2 ^ w - 1
  | .f a i w => (a.den ρ).toNat / 2 ^ i % 2 ^ w

noncomputable def bv : List Bt → Nat
  | [] => 0
  | p :: l => p.val ρ + 2 ^ p.w * bv l

theorem two_pos' (n : Nat) : 0 < 2 ^ n := Nat.pow_pos (by omega)

theorem val_lt (p : Bt) : p.val ρ < 2 ^ p.w := by
  cases p with
  | z w => exact two_pos' w
  | o w => have := two_pos' w; show 2 ^ w - 1 < 2 ^ w; omega
  | f a o w => exact Nat.mod_lt _ (two_pos' w)

theorem ones_mod {n w : Nat} (h : n ≤ w) : (2 ^ w - 1) % 2 ^ n = 2 ^ n - 1 := by
  obtain ⟨d, rfl⟩ := Nat.exists_eq_add_of_le h
  have h1 := two_pos' n
  have h2 := two_pos' d
  have : 2 ^ (n + d) - 1 = (2 ^ n - 1) + 2 ^ n * (2 ^ d - 1) := by
    rw [Nat.pow_add, Nat.mul_sub, Nat.mul_one]
    have : 2 ^ n ≤ 2 ^ n * 2 ^ d := Nat.le_mul_of_pos_right _ h2
    omega
  rw [this, Nat.add_mul_mod_self_left]
  exact Nat.mod_eq_of_lt (by omega)

theorem ones_div {n w : Nat} (h : n ≤ w) : (2 ^ w - 1) / 2 ^ n = 2 ^ (w - n) - 1 := by
  obtain ⟨d, rfl⟩ := Nat.exists_eq_add_of_le h
  have h1 := two_pos' n
  have h2 := two_pos' d
  have : 2 ^ (n + d) - 1 = (2 ^ n - 1) + 2 ^ n * (2 ^ d - 1) := by
    rw [Nat.pow_add, Nat.mul_sub, Nat.mul_one]
    have : 2 ^ n ≤ 2 ^ n * 2 ^ d := Nat.le_mul_of_pos_right _ h2
    omega
  rw [this, Nat.add_mul_div_left _ _ h1, Nat.div_eq_of_lt (by omega), Nat.zero_add, Nat.add_sub_cancel_left]

theorem cut_w (p : Bt) (n : Nat) : (p.cut n).w = n := by cases p <;> rfl
theorem rest_w (p : Bt) (n : Nat) : (p.rest n).w = p.w - n := by cases p <;> rfl

theorem cut_val {p : Bt} {n : Nat} (h : n ≤ p.w) : (p.cut n).val ρ = p.val ρ % 2 ^ n := by
  cases p with
  | z w => exact (Nat.zero_mod _).symm
  | o w => exact (ones_mod h).symm
  | f a o w =>
    show (a.den ρ).toNat / 2 ^ o % 2 ^ n = (a.den ρ).toNat / 2 ^ o % 2 ^ w % 2 ^ n
    exact (Nat.mod_mod_of_dvd _ (Nat.pow_dvd_pow 2 h)).symm

theorem mod_div_pow (x : Nat) {n w : Nat} (h : n ≤ w) : x % 2 ^ w / 2 ^ n = x / 2 ^ n % 2 ^ (w - n) := by
  obtain ⟨d, rfl⟩ := Nat.exists_eq_add_of_le h
  rw [Nat.add_sub_cancel_left, Nat.pow_add, Nat.mod_mul, Nat.add_mul_div_left _ _ (two_pos' n), Nat.div_eq_of_lt (Nat.mod_lt _ (two_pos' n)), Nat.zero_add]

theorem rest_val {p : Bt} {n : Nat} (h : n ≤ p.w) : (p.rest n).val ρ = p.val ρ / 2 ^ n := by
  cases p with
  | z w => exact (Nat.zero_div _).symm
  | o w => exact (ones_div h).symm
  | f a o w =>
    show (a.den ρ).toNat / 2 ^ (o + n) % 2 ^ (w - n) = (a.den ρ).toNat / 2 ^ o % 2 ^ w / 2 ^ n
    have h : n ≤ w := h
    rw [mod_div_pow _ h, Nat.pow_add, Nat.div_div_eq_div_mul]

theorem bv_lt : ∀ (l : List Bt), bv ρ l < 2 ^ widB l
  | [] => by show 0 < 2 ^ 0; decide
  | p :: l => by
    have h1 := val_lt ρ p
    have h2 := bv_lt l
    show p.val ρ + 2 ^ p.w * bv ρ l < 2 ^ (p.w + widB l)
    rw [Nat.pow_add]
    have : 2 ^ p.w * bv ρ l + 2 ^ p.w ≤ 2 ^ p.w * 2 ^ widB l := by
      rw [← Nat.mul_succ]; exact Nat.mul_le_mul_left _ h2
    omega

theorem takeB_val : ∀ (l : List Bt) (n : Nat), bv ρ (takeB l n) = bv ρ l % 2 ^ n
  | [], n => (Nat.zero_mod _).symm
  | p :: l, n => by
    show bv ρ (selB (Nat.ble n p.w) [p.cut n] (p :: takeB l (n - p.w))) = (p.val ρ + 2 ^ p.w * bv ρ l) % 2 ^ n
    cases h : Nat.ble n p.w with
    | true =>
      rw [ble_iff] at h
      show (p.cut n).val ρ + 2 ^ (p.cut n).w * 0 = _
      rw [cut_val ρ h, Nat.mul_zero, Nat.add_zero]
      obtain ⟨d, hd⟩ := Nat.exists_eq_add_of_le h
      rw [hd, Nat.pow_add, Nat.mul_assoc, Nat.add_mul_mod_self_left]
    | false =>
      rw [ble_false] at h
      show p.val ρ + 2 ^ p.w * bv ρ (takeB l (n - p.w)) = _
      rw [takeB_val l]
      obtain ⟨d, rfl⟩ := Nat.exists_eq_add_of_le (Nat.le_of_lt h)
      rw [Nat.add_sub_cancel_left, Nat.pow_add, Nat.mod_mul, Nat.add_mul_mod_self_left, Nat.mod_eq_of_lt (val_lt ρ p), Nat.add_mul_div_left _ _ (two_pos' _), Nat.div_eq_of_lt (val_lt ρ p), Nat.zero_add]

theorem dropB_val : ∀ (l : List Bt) (n : Nat), bv ρ (dropB l n) = bv ρ l / 2 ^ n
  | [], n => (Nat.zero_div _).symm
  | p :: l, n => by
    show bv ρ (selB (Nat.blt n p.w) (p.rest n :: l) (dropB l (n - p.w))) = (p.val ρ + 2 ^ p.w * bv ρ l) / 2 ^ n
    cases h : Nat.blt n p.w with
    | true =>
      rw [blt_iff] at h
      show (p.rest n).val ρ + 2 ^ (p.rest n).w * bv ρ l = _
      rw [rest_w, rest_val ρ (Nat.le_of_lt h)]
      obtain ⟨d, hd⟩ := Nat.exists_eq_add_of_le (Nat.le_of_lt h)
      rw [hd, Nat.add_sub_cancel_left, Nat.pow_add, Nat.mul_assoc, Nat.add_mul_div_left _ _ (two_pos' n)]
    | false =>
      rw [blt_false] at h
      show bv ρ (dropB l (n - p.w)) = _
      rw [dropB_val l]
      obtain ⟨d, rfl⟩ := Nat.exists_eq_add_of_le h
      rw [Nat.add_sub_cancel_left, Nat.pow_add, ← Nat.div_div_eq_div_mul, Nat.add_mul_div_left _ _ (two_pos' _), Nat.div_eq_of_lt (val_lt ρ p), Nat.zero_add]

/-! ### two numbers -/

theorem zipB_val {g : Bt → Bt → Option Bt} {or : Bool} (f : Nat → Nat → Nat)
    (hs : ∀ w x y a b, x < 2 ^ w → y < 2 ^ w → f (x + 2 ^ w * a) (y + 2 ^ w * b) = f x y + 2 ^ w * f a b)
    (hg : ∀ p q r, g p q = some r → p.w = q.w → r.w = p.w ∧ r.val ρ = f (p.val ρ) (q.val ρ))
    (h0 : ∀ b, f 0 b = if or then b else 0) (h1 : ∀ a, f a 0 = if or then a else 0) :
    ∀ (n : Nat) (a b l : List Bt), zipB g or n a b = some l → bv ρ l = f (bv ρ a) (bv ρ b)
  | 0, _, _, _, h => nomatch h
  | n + 1, [], b, l, h => by
    have h : some (selB or b []) = some l := h
    rw [← Option.some.inj h]
    show _ = f 0 _
    rw [h0]
    cases or <;> rfl
  | n + 1, p :: a, [], l, h => by
    have h : some (selB or (p :: a) []) = some l := h
    rw [← Option.some.inj h]
    show _ = f _ 0
    rw [h1]
    cases or <;> rfl
  | n + 1, p :: a, q :: b, l, h => by
    have hc : ∀ {x : Option Bt} {y : Option (List Bt)} {l}, consOB x y = some l → ∃ r m, x = some r ∧ y = some m ∧ l = r :: m := by
      intro x y l h
      cases x with
      | none => exact nomatch h
      | some r =>
        cases y with
        | none => exact nomatch h
        | some m => exact ⟨r, m, rfl, rfl, (Option.some.inj h).symm⟩
    have h : selB (Nat.beq p.w q.w) (consOB (g p q) (zipB g or n a b)) (selB (Nat.blt p.w q.w) (consOB (g p (q.cut p.w)) (zipB g or n a (q.rest p.w :: b))) (consOB (g (p.cut q.w) q) (zipB g or n (p.rest q.w :: a) b))) = some l := h
    show bv ρ l = f (p.val ρ + 2 ^ p.w * bv ρ a) (q.val ρ + 2 ^ q.w * bv ρ b)
    cases he : Nat.beq p.w q.w with
    | true =>
      rw [he] at h
      obtain ⟨r, m, h2, h3, rfl⟩ := hc h
      rw [beq_iff] at he
      obtain ⟨h4, h5⟩ := hg p q r h2 he
      show r.val ρ + 2 ^ r.w * bv ρ m = _
      rw [zipB_val f hs hg h0 h1 n a b m h3, h4, h5, ← he, hs _ _ _ _ _ (val_lt ρ p) (he ▸ val_lt ρ q)]
    | false =>
      rw [he] at h
      cases hl : Nat.blt p.w q.w with
      | true =>
        rw [hl] at h
        obtain ⟨r, m, h2, h3, rfl⟩ := hc h
        rw [blt_iff] at hl
        obtain ⟨h4, h5⟩ := hg p _ r h2 (cut_w q p.w).symm
        show r.val ρ + 2 ^ r.w * bv ρ m = _
        have hq : q.val ρ + 2 ^ q.w * bv ρ b = (q.cut p.w).val ρ + 2 ^ p.w * bv ρ (q.rest p.w :: b) := by
          show _ = (q.cut p.w).val ρ + 2 ^ p.w * ((q.rest p.w).val ρ + 2 ^ (q.rest p.w).w * bv ρ b)
          rw [cut_val ρ (Nat.le_of_lt hl), rest_val ρ (Nat.le_of_lt hl), rest_w, Nat.mul_add, ← Nat.add_assoc, Nat.mod_add_div, ← Nat.mul_assoc, ← Nat.pow_add, Nat.add_sub_cancel' (Nat.le_of_lt hl)]
        rw [zipB_val f hs hg h0 h1 n _ _ m h3, h4, h5, hq, hs _ _ _ _ _ (val_lt ρ p) (by have := val_lt ρ (q.cut p.w); rwa [cut_w] at this)]
      | false =>
        rw [hl] at h
        obtain ⟨r, m, h2, h3, rfl⟩ := hc h
        rw [blt_false] at hl
        obtain ⟨h4, h5⟩ := hg _ q r h2 (cut_w p q.w)
        show r.val ρ + 2 ^ r.w * bv ρ m = _
        have hp : p.val ρ + 2 ^ p.w * bv ρ a = (p.cut q.w).val ρ + 2 ^ q.w * bv ρ (p.rest q.w :: a) := by
          show _ = (p.cut q.w).val ρ + 2 ^ q.w * ((p.rest q.w).val ρ + 2 ^ (p.rest q.w).w * bv ρ a)
          rw [cut_val ρ hl, rest_val ρ hl, rest_w, Nat.mul_add, ← Nat.add_assoc, Nat.mod_add_div, ← Nat.mul_assoc, ← Nat.pow_add, Nat.add_sub_cancel' hl]
        rw [zipB_val f hs hg h0 h1 n _ _ m h3, h4, h5, cut_w, hp, hs _ _ _ _ _ (by have := val_lt ρ (p.cut q.w); rwa [cut_w] at this) (val_lt ρ q)]

theorem orP_cases {p q r : Bt} (h : orP p q = some r) : (isZ p = true ∧ r = q) ∨ (isZ q = true ∧ r = p) := by
  cases p <;> cases q <;> first
    | exact .inl ⟨rfl, (Option.some.inj h).symm⟩
    | exact .inr ⟨rfl, (Option.some.inj h).symm⟩
    | exact nomatch h

theorem isZ_val {p : Bt} (h : isZ p = true) : p.val ρ = 0 := by
  cases p with
  | z w => rfl
  | o w => exact nomatch h
  | f a o w => exact nomatch h

theorem bits_split (op : Bool → Bool → Bool) (f : Nat → Nat → Nat) (hf : ∀ x y i, (f x y).testBit i = op (x.testBit i) (y.testBit i)) (hl : ∀ w x y, x < 2 ^ w → y < 2 ^ w → f x y < 2 ^ w)
    (w x y a b : Nat) (hx : x < 2 ^ w) (hy : y < 2 ^ w) : f (x + 2 ^ w * a) (y + 2 ^ w * b) = f x y + 2 ^ w * f a b := by
  apply Nat.eq_of_testBit_eq
  intro i
  rw [hf, Nat.add_comm x, Nat.add_comm y, Nat.add_comm (f x y), Nat.testBit_two_pow_mul_add _ hx, Nat.testBit_two_pow_mul_add _ hy, Nat.testBit_two_pow_mul_add _ (hl w x y hx hy)]
  by_cases hi : i < w
  · simp only [hi, if_true]; rw [hf]
  · simp only [hi, if_false]; rw [hf]

theorem zip_add {n : Nat} {a b l : List Bt} (h : zipB orP true n a b = some l) : bv ρ l = bv ρ a + bv ρ b :=
  zipB_val ρ (· + ·) (fun w x y a b _ _ => by
    show x + 2 ^ w * a + (y + 2 ^ w * b) = x + y + 2 ^ w * (a + b)
    rw [Nat.mul_add]; omega) (fun p q r hr hw => by
    rcases orP_cases hr with ⟨hz, rfl⟩ | ⟨hz, rfl⟩
    · exact ⟨hw.symm, by show _ = p.val ρ + _; rw [isZ_val ρ hz, Nat.zero_add]⟩
    · exact ⟨rfl, by show _ = _ + q.val ρ; rw [isZ_val ρ hz, Nat.add_zero]⟩) (fun b => by simp) (fun b => by simp) n a b l h

theorem zip_or {n : Nat} {a b l : List Bt} (h : zipB orP true n a b = some l) : bv ρ l = bv ρ a ||| bv ρ b :=
  zipB_val ρ (· ||| ·) (bits_split (· || ·) (· ||| ·) (fun x y i => Nat.testBit_or x y i) (fun w x y hx hy => Nat.or_lt_two_pow hx hy)) (fun p q r hr hw => by
    rcases orP_cases hr with ⟨hz, rfl⟩ | ⟨hz, rfl⟩
    · exact ⟨hw.symm, by show _ = p.val ρ ||| _; rw [isZ_val ρ hz, Nat.zero_or]⟩
    · exact ⟨rfl, by show _ = _ ||| q.val ρ; rw [isZ_val ρ hz, Nat.or_zero]⟩) (fun b => by simp) (fun b => by simp) n a b l h

theorem ones_and {w x : Nat} (h : x < 2 ^ w) : (2 ^ w - 1) &&& x = x := by
  rw [Nat.and_comm, Nat.and_two_pow_sub_one_eq_mod, Nat.mod_eq_of_lt h]

theorem and_ones {w x : Nat} (h : x < 2 ^ w) : x &&& (2 ^ w - 1) = x := by
  rw [Nat.and_two_pow_sub_one_eq_mod, Nat.mod_eq_of_lt h]

theorem andP_ok {p q r : Bt} (h : andP p q = some r) (hw : p.w = q.w) : r.w = p.w ∧ r.val ρ = p.val ρ &&& q.val ρ := by
  have ho : ∀ {w} {x : Bt}, x.w = w → (2 ^ w - 1) &&& x.val ρ = x.val ρ := fun {w x} hx => ones_and (hx ▸ val_lt ρ x)
  have ho' : ∀ {w} {x : Bt}, x.w = w → x.val ρ &&& (2 ^ w - 1) = x.val ρ := fun {w x} hx => and_ones (hx ▸ val_lt ρ x)
  cases p with
  | z w =>
    have h : some (Bt.z w) = some r := h
    rw [← Option.some.inj h]
    exact ⟨rfl, by show 0 = 0 &&& _; rw [Nat.zero_and]⟩
  | o w =>
    have h : some q = some r := h
    rw [← Option.some.inj h]
    exact ⟨hw.symm, (ho hw.symm).symm⟩
  | f a i w =>
    cases q with
    | z u =>
      have h : some (Bt.z u) = some r := h
      rw [← Option.some.inj h]
      exact ⟨hw.symm, by show 0 = _ &&& 0; rw [Nat.and_zero]⟩
    | o u =>
      have h : some (Bt.f a i w) = some r := h
      rw [← Option.some.inj h]
      exact ⟨rfl, (ho' hw).symm⟩
    | f b j u => exact nomatch h

theorem zip_and {n : Nat} {a b l : List Bt} (h : zipB andP false n a b = some l) : bv ρ l = bv ρ a &&& bv ρ b :=
  zipB_val ρ (· &&& ·) (bits_split (· && ·) (· &&& ·) (fun x y i => Nat.testBit_and x y i) (fun w x y hx _ => Nat.lt_of_le_of_lt Nat.and_le_left hx)) (fun p q r hr hw => andP_ok ρ hr hw) (fun b => by simp) (fun b => by simp) n a b l h

/-! ### normal forms -/

theorem joinP_ok {p q r : Bt} (h : joinP p q = some r) : r.w = p.w + q.w ∧ r.val ρ = p.val ρ + 2 ^ p.w * q.val ρ := by
  cases p with
  | z w =>
    cases q with
    | z u =>
      have h : some (Bt.z (w + u)) = some r := h
      rw [← Option.some.inj h]
      exact ⟨rfl, by show 0 = 0 + 2 ^ w * 0; omega⟩
    | o u => exact nomatch h
    | f b j u => exact nomatch h
  | o w =>
    cases q with
    | z u => exact nomatch h
    | o u =>
      have h : some (Bt.o (w + u)) = some r := h
      rw [← Option.some.inj h]
      refine ⟨rfl, ?_⟩
      show 2 ^ (w + u) - 1 = (2 ^ w - 1) + 2 ^ w * (2 ^ u - 1)
      have h1 := two_pos' w
      have h2 := two_pos' u
      rw [Nat.pow_add, Nat.mul_sub, Nat.mul_one]
      have : 2 ^ w ≤ 2 ^ w * 2 ^ u := Nat.le_mul_of_pos_right _ h2
      omega
    | f b j u => exact nomatch h
  | f a i w =>
    cases q with
    | z u => exact nomatch h
    | o u => exact nomatch h
    | f b j u =>
      have h : selB (andB (Nat.beq j (i + w)) (E.beq a b)) (some (Bt.f a i (w + u))) none = some r := h
      generalize hb : andB (Nat.beq j (i + w)) (E.beq a b) = c at h
      cases c with
      | false => exact nomatch h
      | true =>
        have h : some (Bt.f a i (w + u)) = some r := h
        rw [andB_eq, Bool.and_eq_true, beq_iff] at hb
        rw [← Option.some.inj h]
        refine ⟨rfl, ?_⟩
        show (a.den ρ).toNat / 2 ^ i % 2 ^ (w + u) = (a.den ρ).toNat / 2 ^ i % 2 ^ w + 2 ^ w * ((b.den ρ).toNat / 2 ^ j % 2 ^ u)
        rw [← E.beq_eq hb.2, hb.1, Nat.pow_add, Nat.mod_mul, Nat.pow_add, Nat.div_div_eq_div_mul]

theorem consB_val (p : Bt) (l : List Bt) : bv ρ (consB p l) = p.val ρ + 2 ^ p.w * bv ρ l := by
  unfold consB
  cases h : Nat.beq p.w 0 with
  | true =>
    rw [beq_iff] at h
    have := val_lt ρ p
    rw [h] at this ⊢
    show bv ρ l = _
    omega
  | false =>
    cases l with
    | nil =>
      show bv ρ (selB (isZ p) [] [p]) = _ + _ * 0
      cases hz : isZ p with
      | true => show 0 = _; rw [isZ_val ρ hz]; omega
      | false => rfl
    | cons q r =>
      show bv ρ (Option.rec (p :: q :: r) (fun j => j :: r) (joinP p q) : List Bt) = _
      cases hj : joinP p q with
      | none => rfl
      | some j =>
        obtain ⟨h1, h2⟩ := joinP_ok ρ hj
        show j.val ρ + 2 ^ j.w * bv ρ r = p.val ρ + 2 ^ p.w * (q.val ρ + 2 ^ q.w * bv ρ r)
        rw [h1, h2, Nat.pow_add, Nat.mul_add, Nat.mul_assoc]; omega

theorem normB_val : ∀ (l : List Bt), bv ρ (normB l) = bv ρ l
  | [] => rfl
  | p :: l => by
    show bv ρ (consB p (normB l)) = p.val ρ + _
    rw [consB_val, normB_val l]

theorem bitsL_val : ∀ (n v : Nat), v < 2 ^ n → bv ρ (bitsL n v) = v
  | 0, v, h => by show 0 = v; have : v < 1 := h; omega
  | n + 1, v, h => by
    have hd : v / 2 < 2 ^ n := by rw [Nat.pow_succ] at h; omega
    show bv ρ (selB (Nat.beq (v % 2) 0) (.z 1) (.o 1) :: bitsL n (v / 2)) = v
    cases hb : Nat.beq (v % 2) 0 with
    | true =>
      rw [beq_iff] at hb
      show 0 + 2 ^ 1 * bv ρ (bitsL n (v / 2)) = v
      rw [bitsL_val n _ hd]; omega
    | false =>
      rw [beq_false] at hb
      show (2 ^ 1 - 1) + 2 ^ 1 * bv ρ (bitsL n (v / 2)) = v
      rw [bitsL_val n _ hd]; omega

theorem numB_val (v : Nat) : bv ρ (numB v) = v := by
  show bv ρ (normB _) = v
  rw [normB_val]
  exact bitsL_val ρ _ v Nat.lt_log2_self

/-! ### kinds -/

theorem lim_kb (k : IntKind) : limN k = 2 ^ kb k := by cases k <;> rfl
theorem kb_le (k : IntKind) : kb k ≤ k.bits := by cases k <;> decide

theorem wrap_fit {k : IntKind} {v : Nat} (h : v < 2 ^ kb k) : k.wrap (v : Int) = v :=
  wrap_in k v (by have : kMin k ≤ 0 := by { cases k <;> simp [kMin, IntKind.signed, limN] }
                  omega) (by simp only [kMax, lim_kb]; omega)

theorem wrap_uns {k : IntKind} (hk : k.signed = false) (v : Nat) : k.wrap (v : Int) = ((v % 2 ^ kb k : Nat) : Int) := by
  cases k <;> first
    | (exact absurd hk (by decide))
    | (simp [IntKind.wrap, IntKind.signed, IntKind.bits, kb])

theorem pow_le' {a b : Nat} (h : a ≤ b) : 2 ^ a ≤ 2 ^ b := Nat.pow_le_pow_right (by omega) h

theorem fitB_ok {k : IntKind} {l r : List Bt} (h : fitB k l = some r) : k.wrap ((bv ρ l : Nat) : Int) = ((bv ρ r : Nat) : Int) := by
  have h : selB (Nat.ble (widB (normB l)) (kb k)) (some (normB l)) (selB k.signed none (some (normB (takeB (normB l) (kb k))))) = some r := h
  cases hw : Nat.ble (widB (normB l)) (kb k) with
  | true =>
    rw [hw] at h
    rw [← Option.some.inj (show some (normB l) = some r from h), normB_val]
    rw [ble_iff] at hw
    have := bv_lt ρ (normB l)
    rw [normB_val] at this
    exact wrap_fit (Nat.lt_of_lt_of_le this (pow_le' hw))
  | false =>
    rw [hw] at h
    cases hk : k.signed with
    | true => rw [hk] at h; exact nomatch h
    | false =>
      rw [hk] at h
      rw [← Option.some.inj (show some (normB (takeB (normB l) (kb k))) = some r from h), normB_val, takeB_val, normB_val]
      exact wrap_uns hk _

theorem onO_some {α β : Type} {x : Option α} {f : α → Option β} {v : β} (h : onO x f = some v) : ∃ a, x = some a ∧ f a = some v := by
  cases x with
  | none => exact nomatch h
  | some a => exact ⟨a, rfl, h⟩

theorem fitO_ok {k : IntKind} {l : Option (List Bt)} {r : List Bt} (h : fitO k l = some r) : ∃ m, l = some m ∧ k.wrap ((bv ρ m : Nat) : Int) = ((bv ρ r : Nat) : Int) := by
  cases l with
  | none => exact nomatch h
  | some m => exact ⟨m, rfl, fitB_ok ρ h⟩

theorem powE_ok {e : E} {c : Nat} (h : powE e = some c) : e.den ρ = ((2 ^ c : Nat) : Int) := by
  rcases onN_cases' h with ⟨z, rfl, h⟩ | h
  · cases z with
    | negSucc m => exact nomatch h
    | ofNat m =>
      have h : selB (Nat.beq (Nat.pow 2 (Nat.log2 m)) m) (some (Nat.log2 m)) none = some c := h
      cases hb : Nat.beq (Nat.pow 2 (Nat.log2 m)) m with
      | false => rw [hb] at h; exact nomatch h
      | true =>
        rw [hb] at h
        rw [← Option.some.inj (show some (Nat.log2 m) = some c from h)]
        rw [beq_iff] at hb
        show ((m : Nat) : Int) = ((2 ^ Nat.log2 m : Nat) : Int)
        exact congrArg Int.ofNat hb.symm
  · exact nomatch h

theorem numE_ok {e : E} {c : Nat} (h : numE e = some c) : e.den ρ = (c : Int) := by
  rcases onN_cases' h with ⟨z, rfl, h⟩ | h
  · cases z with
    | negSucc m => exact nomatch h
    | ofNat m =>
      rw [← Option.some.inj (show some m = some c from h)]
      rfl
  · exact nomatch h

theorem zip2_eq (g : Bt → Bt → Option Bt) (or : Bool) (l r : List Bt) : zip2 g or l r = zipB g or (Nat.succ (Nat.add (lenL l) (lenL r))) l r := rfl

theorem zv (w : Nat) (l : List Bt) : bv ρ (.z w :: l) = 2 ^ w * bv ρ l := by show 0 + _ = _; rw [Nat.zero_add]; rfl

theorem bits_den {op : BinOp} {k : IntKind} {x y : Nat} (h1 : x < 2 ^ kb k) (h2 : y < 2 ^ kb k) : bitsF op k (x : Int) (y : Int) = ((bitsN op x y : Nat) : Int) := by
  show (Bool.rec (bitsZ op k (Int.ofNat x) (Int.ofNat y)) (Int.ofNat (bitsN op x y)) (andB (Nat.blt x (limN k)) (Nat.blt y (limN k))) : Int) = _
  have e1 : Nat.blt x (limN k) = true := by rw [blt_iff, lim_kb]; exact h1
  have e2 : Nat.blt y (limN k) = true := by rw [blt_iff, lim_kb]; exact h2
  rw [e1, e2]; rfl

theorem selB_someB {α : Type} {c : Bool} {x : Option α} {v : α} (h : selB c x none = some v) : c = true ∧ x = some v := by
  cases c with
  | false => exact nomatch h
  | true => exact ⟨rfl, h⟩

theorem lt_kb {k : IntKind} {l : List Bt} (h : Nat.ble (widB l) (kb k) = true) : bv ρ l < 2 ^ kb k := by
  rw [ble_iff] at h
  exact Nat.lt_of_lt_of_le (bv_lt ρ l) (pow_le' h)

theorem binB_ok {op : BinOp} {k : IntKind} {l r m : List Bt} {a b : E} (ha : a.den ρ = ((bv ρ l : Nat) : Int)) (hb : b.den ρ = ((bv ρ r : Nat) : Int)) (h : binB op k l r a b = some m) :
    (E.bin op k a b).den ρ = ((bv ρ m : Nat) : Int) := by
  show binZ op k (a.den ρ) (b.den ρ) = _
  cases op
  case add =>
    obtain ⟨s, h1, h2⟩ := fitO_ok ρ (show fitO k (zip2 orP true l r) = some m from h)
    show wrapZ k (a.den ρ + b.den ρ) = _
    rw [wrapZ_eq, ha, hb, ← h2, zip_add ρ h1]; push_cast; rfl
  case mul =>
    have h : mulB k l r a b = some m := h
    show wrapZ k (a.den ρ * b.den ρ) = _
    rw [wrapZ_eq]
    have h : (Option.rec (onO (powE a) (fun c => fitB k (.z c :: r))) (fun c => fitB k (.z c :: l)) (powE b) : Option (List Bt)) = some m := h
    cases hp : powE b with
    | some c =>
      rw [hp] at h
      have h := fitB_ok ρ (show fitB k (.z c :: l) = some m from h)
      rw [← h, zv, ha, powE_ok ρ hp, Nat.mul_comm]; push_cast; rfl
    | none =>
      rw [hp] at h
      obtain ⟨c, h1, h2⟩ := onO_some (show onO (powE a) (fun c => fitB k (.z c :: r)) = some m from h)
      have h := fitB_ok ρ h2
      rw [← h, zv, hb, powE_ok ρ h1]; push_cast; rfl
  case quo =>
    obtain ⟨c, h1, h2⟩ := onO_some (show onO (powE b) (fun c => fitB k (dropB l c)) = some m from h)
    show wrapZ k ((a.den ρ).tdiv (b.den ρ)) = _
    rw [wrapZ_eq, powE_ok ρ h1, ← fitB_ok ρ h2, dropB_val, ha, ← Int.ofNat_tdiv]
  case rem =>
    obtain ⟨c, h1, h2⟩ := onO_some (show onO (powE b) (fun c => some (normB (takeB l c))) = some m from h)
    show (a.den ρ).tmod (b.den ρ) = _
    rw [← Option.some.inj h2, normB_val, takeB_val, powE_ok ρ h1, ha, ← Int.ofNat_tmod]
  case and =>
    obtain ⟨h1, h2⟩ := selB_someB (show selB (andB (Nat.ble (widB l) (kb k)) (Nat.ble (widB r) (kb k))) (onO (zip2 andP false l r) (fun l => some (normB l))) none = some m from h)
    rw [andB_eq, Bool.and_eq_true] at h1
    obtain ⟨s, h3, h4⟩ := onO_some h2
    show bitsF .and k (a.den ρ) (b.den ρ) = _
    rw [ha, hb, bits_den (lt_kb ρ h1.1) (lt_kb ρ h1.2), ← Option.some.inj h4, normB_val, zip_and ρ h3]; rfl
  case or =>
    obtain ⟨h1, h2⟩ := selB_someB (show selB (andB (Nat.ble (widB l) (kb k)) (Nat.ble (widB r) (kb k))) (onO (zip2 orP true l r) (fun l => some (normB l))) none = some m from h)
    rw [andB_eq, Bool.and_eq_true] at h1
    obtain ⟨s, h3, h4⟩ := onO_some h2
    show bitsF .or k (a.den ρ) (b.den ρ) = _
    rw [ha, hb, bits_den (lt_kb ρ h1.1) (lt_kb ρ h1.2), ← Option.some.inj h4, normB_val, zip_or ρ h3]; rfl
  case shl =>
    obtain ⟨c, h1, h2⟩ := onO_some (show onO (numE b) (fun c => selB (Nat.ble c k.bits) (fitB k (.z c :: l)) none) = some m from h)
    obtain ⟨h3, h4⟩ := selB_someB h2
    rw [ble_iff] at h3
    show shlZ k (a.den ρ) (b.den ρ) = _
    rw [ha, numE_ok ρ h1]
    show wrapZ k (Int.ofNat (Nat.mul (bv ρ l) (Nat.pow 2 (min c k.bits)))) = _
    rw [wrapZ_eq, ← fitB_ok ρ h4, zv, Nat.min_eq_left h3, Nat.mul_comm]; rfl
  case shr =>
    obtain ⟨c, h1, h2⟩ := onO_some (show onO (numE b) (fun c => selB (Nat.ble c k.bits) (some (normB (dropB l c))) none) = some m from h)
    obtain ⟨h3, h4⟩ := selB_someB h2
    rw [ble_iff] at h3
    show shrZ k (a.den ρ) (b.den ρ) = _
    rw [ha, numE_ok ρ h1]
    show Int.ofNat (Nat.div (bv ρ l) (Nat.pow 2 (min c k.bits))) = _
    rw [← Option.some.inj h4, normB_val, dropB_val, Nat.min_eq_left h3]; rfl
  all_goals exact nomatch h

section top
variable {ρ} {rng : List (Int × Int)} (hr : RngR ρ rng)
include hr

theorem atomB_ok {e : E} {l : List Bt} (h : atomB rng e = some l) : e.den ρ = ((bv ρ l : Nat) : Int) := by
  have h : (Option.rec none (fun r => selB (leZ 0 r.1) (selB (eqZ r.1 r.2) (some (numB (Int.toNat r.1))) (some [.f e 0 (Nat.succ (Nat.log2 (Int.toNat r.2)))])) none) (e.iv rng) : Option (List Bt)) = some l := h
  cases hi : e.iv rng with
  | none => rw [hi] at h; exact nomatch h
  | some r =>
    rw [hi] at h
    obtain ⟨h1, h2⟩ := selB_someB h
    rw [leZ_iff] at h1
    have h3 := E.iv_in hr (show e.iv rng = some (r.1, r.2) from hi)
    cases he : eqZ r.1 r.2 with
    | true =>
      rw [he] at h2
      rw [eqZ_iff] at he
      rw [← Option.some.inj (show some (numB (Int.toNat r.1)) = some l from h2), numB_val]
      omega
    | false =>
    rw [he] at h2
    rw [← Option.some.inj (show some [Bt.f e 0 (Nat.succ (Nat.log2 (Int.toNat r.2)))] = some l from h2)]
    show e.den ρ = (((e.den ρ).toNat / 2 ^ 0 % 2 ^ (Nat.succ (Nat.log2 r.2.toNat)) + 2 ^ (Nat.succ (Nat.log2 r.2.toNat)) * 0 : Nat) : Int)
    have h4 : (e.den ρ).toNat < 2 ^ (Nat.succ (Nat.log2 r.2.toNat)) := Nat.lt_of_le_of_lt (by omega) Nat.lt_log2_self
    rw [Nat.pow_zero, Nat.div_one, Nat.mod_eq_of_lt h4]
    omega

theorem orAtom_ok {e : E} {x : Option (List Bt)} {l : List Bt} (hx : ∀ l, x = some l → e.den ρ = ((bv ρ l : Nat) : Int)) (h : orAtom rng e x = some l) : e.den ρ = ((bv ρ l : Nat) : Int) := by
  cases x with
  | none => exact atomB_ok hr h
  | some m => exact hx l h

theorem toB_ok : ∀ {e : E} {l : List Bt}, toB rng e = some l → e.den ρ = ((bv ρ l : Nat) : Int)
  | .n z, l, h => by
    obtain ⟨m, h1, h2⟩ := onO_some (show onO (numZ z) (fun m => some (numB m)) = some l from h)
    rw [← Option.some.inj h2, numB_val]
    cases z with
    | negSucc m => exact nomatch h1
    | ofNat m' => rw [← Option.some.inj (show some m' = some m from h1)]; rfl
  | .bin op k a b, l, h => orAtom_ok hr (fun m hm => by
      obtain ⟨x, h1, h2⟩ := onO_some hm
      obtain ⟨y, h3, h4⟩ := onO_some h2
      exact binB_ok ρ (toB_ok h1) (toB_ok h3) h4) (show orAtom rng (.bin op k a b) (onO (toB rng a) fun l => onO (toB rng b) fun r => binB op k l r a b) = some l from h)
  | .cv k a, l, h => orAtom_ok hr (fun m hm => by
      obtain ⟨x, h1, h2⟩ := fitO_ok ρ hm
      show k.wrap (a.den ρ) = _
      rw [toB_ok h1, h2]) (show orAtom rng (.cv k a) (fitO k (toB rng a)) = some l from h)
  | .x i, _, h => atomB_ok hr (show atomB rng (.x i) = some _ from h)
  | .rd a r lo hi e, _, h => atomB_ok hr (show atomB rng (.rd a r lo hi e) = some _ from h)
  | .tab t lo hi e, _, h => atomB_ok hr (show atomB rng (.tab t lo hi e) = some _ from h)

omit hr in
theorem mkBin_den' (ρ : Nat → Int) (op : BinOp) (k : IntKind) (a b : E) : (mkBin op k a b).den ρ = binZ op k (a.den ρ) (b.den ρ) := by
  unfold mkBin
  cases a <;> try rfl
  cases b <;> rfl

omit hr in
theorem u64_in {z : Int} (h0 : 0 ≤ z) (h1 : z < 18446744073709551616) : IntKind.u64.wrap z = z :=
  wrap_in .u64 z h0 (by show z ≤ 18446744073709551616 - 1; omega)

theorem fieldE_ok {a e : E} {o w : Nat} (h : fieldE rng a o w = some e) : e.den ρ = (((a.den ρ).toNat / 2 ^ o % 2 ^ w : Nat) : Int) := by
  have h : (Option.rec none (fun r => selB (andB (leZ 0 r.1) (ltZ r.2 18446744073709551616)) (some (remIf o w (Int.toNat r.2) (quoIf a o))) none) (a.iv rng) : Option E) = some e := h
  cases hi : a.iv rng with
  | none => rw [hi] at h; exact nomatch h
  | some r =>
    rw [hi] at h
    obtain ⟨h1, h2⟩ := selB_someB h
    rw [andB_eq, Bool.and_eq_true, leZ_iff, ltZ_iff] at h1
    have h3 := E.iv_in hr (show a.iv rng = some (r.1, r.2) from hi)
    obtain ⟨x, hx⟩ := Int.eq_ofNat_of_zero_le (show 0 ≤ a.den ρ by omega)
    have hq : (quoIf a o).den ρ = ((x / 2 ^ o : Nat) : Int) := by
      unfold quoIf
      cases ho : Nat.beq o 0 with
      | true => rw [beq_iff] at ho; subst ho; rw [Nat.pow_zero, Nat.div_one]; exact hx
      | false =>
        show (mkBin .quo .u64 a (.n (.ofNat (Nat.pow 2 o)))).den ρ = _
        rw [mkBin_den' ρ]
        show wrapZ .u64 ((a.den ρ).tdiv ((2 ^ o : Nat) : Int)) = _
        rw [wrapZ_eq, hx, ← Int.ofNat_tdiv]
        have : x / 2 ^ o ≤ x := Nat.div_le_self _ _
        generalize x / 2 ^ o = q at *
        exact u64_in (by omega) (by omega)
    rw [← Option.some.inj h2, hx]
    show (remIf o w r.2.toNat (quoIf a o)).den ρ = ((x / 2 ^ o % 2 ^ w : Nat) : Int)
    unfold remIf
    cases hl : Nat.blt (Nat.div r.2.toNat (Nat.pow 2 o)) (Nat.pow 2 w) with
    | true =>
      rw [blt_iff] at hl
      show (quoIf a o).den ρ = _
      have hl : r.2.toNat / 2 ^ o < 2 ^ w := hl
      have hle : x / 2 ^ o ≤ r.2.toNat / 2 ^ o := Nat.div_le_div_right (by omega)
      rw [hq, Nat.mod_eq_of_lt (Nat.lt_of_le_of_lt hle hl)]
    | false =>
      show (mkBin .rem .u64 (quoIf a o) (.n (.ofNat (Nat.pow 2 w)))).den ρ = _
      rw [mkBin_den' ρ]
      show ((quoIf a o).den ρ).tmod ((2 ^ w : Nat) : Int) = _
      rw [hq, ← Int.ofNat_tmod]

theorem pieceE_ok {p : Bt} {e : E} (h : pieceE rng p = some e) : e.den ρ = ((p.val ρ : Nat) : Int) := by
  cases p with
  | z w => rw [← Option.some.inj (show some (E.n 0) = some e from h)]; rfl
  | o w => rw [← Option.some.inj (show some (E.n (.ofNat (Nat.sub (Nat.pow 2 w) 1))) = some e from h)]; rfl
  | f a o w => exact fieldE_ok hr h

omit hr in
theorem mulIf_ok {e : E} {off v : Nat} (he : e.den ρ = (v : Int)) (h : v * 2 ^ off < 2 ^ 64) : (mulIf e off).den ρ = ((v * 2 ^ off : Nat) : Int) := by
  unfold mulIf
  cases ho : Nat.beq off 0 with
  | true => rw [beq_iff] at ho; subst ho; rw [Nat.pow_zero, Nat.mul_one]; exact he
  | false =>
    show (mkBin .mul .u64 e (.n (.ofNat (Nat.pow 2 off)))).den ρ = _
    rw [mkBin_den' ρ]
    show wrapZ .u64 (e.den ρ * ((2 ^ off : Nat) : Int)) = _
    rw [wrapZ_eq, he]
    have : (v : Int) * ((2 ^ off : Nat) : Int) = ((v * 2 ^ off : Nat) : Int) := by push_cast; rfl
    rw [this]
    exact u64_in (by omega) (by have : (2 : Nat) ^ 64 = 18446744073709551616 := by decide
                                omega)

omit hr in
theorem isN0_ok {e : E} (h : isN0 e = true) : e.den ρ = 0 := by
  rcases onN_cases' (v := true) (show onN e (fun z => eqZ z 0) false = true from h) with ⟨z, rfl, h2⟩ | h2
  · rw [eqZ_iff] at h2; exact h2
  · exact nomatch h2

omit hr in
theorem addIf_ok {e s : E} {x y : Nat} (he : e.den ρ = (x : Int)) (hs : s.den ρ = (y : Int)) (h : x + y < 2 ^ 64) : (addIf e s).den ρ = ((x + y : Nat) : Int) := by
  unfold addIf
  cases h1 : isN0 s with
  | true => have := isN0_ok (ρ := ρ) h1; show e.den ρ = _; omega
  | false =>
    cases h2 : isN0 e with
    | true => have := isN0_ok (ρ := ρ) h2; show s.den ρ = _; omega
    | false =>
      show (mkBin .add .u64 e s).den ρ = _
      rw [mkBin_den' ρ]
      show wrapZ .u64 (e.den ρ + s.den ρ) = _
      rw [wrapZ_eq, he, hs]
      have : (x : Int) + (y : Int) = ((x + y : Nat) : Int) := by push_cast; rfl
      rw [this]
      exact u64_in (by omega) (by have : (2 : Nat) ^ 64 = 18446744073709551616 := by decide
                                  omega)

theorem sumB_ok : ∀ {l : List Bt} {off : Nat} {e : E}, off + widB l ≤ 64 → sumB rng l off = some e → e.den ρ = ((bv ρ l * 2 ^ off : Nat) : Int)
  | [], off, e, _, h => by
    rw [← Option.some.inj (show some (E.n 0) = some e from h)]
    show (0 : Int) = ((0 * 2 ^ off : Nat) : Int)
    rw [Nat.zero_mul]; rfl
  | p :: l, off, e, hw, h => by
    obtain ⟨x, h1, h2⟩ := onO_some (show onO (pieceE rng p) (fun e => onO (sumB rng l (off + p.w)) fun s => some (addIf (mulIf e off) s)) = some e from h)
    obtain ⟨s, h3, h4⟩ := onO_some h2
    have hw : off + (p.w + widB l) ≤ 64 := hw
    have h5 := pieceE_ok hr h1
    have h6 := sumB_ok (by omega) h3
    have hall : bv ρ (p :: l) * 2 ^ off < 2 ^ 64 := by
      have h7 := bv_lt ρ (p :: l)
      have h8 : widB (p :: l) = p.w + widB l := rfl
      rw [h8] at h7
      have h9 : 2 ^ (p.w + widB l) * 2 ^ off ≤ 2 ^ 64 := by rw [← Nat.pow_add]; exact pow_le' (by omega)
      exact Nat.lt_of_lt_of_le (Nat.mul_lt_mul_of_pos_right h7 (two_pos' off)) h9
    have hsplit : bv ρ (p :: l) * 2 ^ off = p.val ρ * 2 ^ off + bv ρ l * 2 ^ (off + p.w) := by
      show (p.val ρ + 2 ^ p.w * bv ρ l) * 2 ^ off = _
      rw [Nat.add_mul, Nat.pow_add, Nat.mul_comm (2 ^ p.w), Nat.mul_assoc, Nat.mul_comm (2 ^ p.w)]
    rw [hsplit] at hall ⊢
    rw [← Option.some.inj h4]
    exact addIf_ok (mulIf_ok h5 (by omega)) h6 hall

theorem canon_den (e : E) : (canon rng e).den ρ = e.den ρ := by
  show E.den ρ (Option.rec e (fun e => e) (onO (toB rng e) (fun l => selB (Nat.ble (widB l) 64) (sumB rng l 0) none)) : E) = _
  cases h : onO (toB rng e) (fun l => selB (Nat.ble (widB l) 64) (sumB rng l 0) none) with
  | none => rfl
  | some e' =>
    show e'.den ρ = _
    obtain ⟨l, h1, h2⟩ := onO_some h
    obtain ⟨h3, h4⟩ := selB_someB h2
    rw [ble_iff] at h3
    rw [sumB_ok hr (by omega) h4, toB_ok hr h1, Nat.pow_zero, Nat.mul_one]
theorem litOf_den (e : E) : (litOf rng e).den ρ = e.den ρ := by
  show E.den ρ (Option.rec e (fun r => selB (eqZ r.1 r.2) (.n r.1) e) (e.iv rng) : E) = _
  cases hi : e.iv rng with
  | none => rfl
  | some r =>
    have h3 := E.iv_in hr (show e.iv rng = some (r.1, r.2) from hi)
    cases he : eqZ r.1 r.2 with
    | true => rw [eqZ_iff] at he; show E.den ρ (selB (eqZ r.1 r.2) (.n r.1) e) = _; rw [(eqZ_iff _ _).2 he]; show r.1 = _; omega
    | false => show E.den ρ (selB (eqZ r.1 r.2) (.n r.1) e) = _; rw [he]; rfl
end top
end bits

end Go.Sy
