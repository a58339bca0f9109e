/-
  What is defined and proved here: a part of the symbolic evaluator: SyCan, SyDraw2, SyMem, SyVal, SyRead, SyBin, SyEq, SyEq2, SyRead2, SyRead3, SyRead4, SyBuild, SyAlloc.
  Conditions: none.
-/
import Derived.Test.YtdiameckiihppaaDoorSyM1
import Derived.Orders
import Derived.Laws.Cells
import Derived.Laws.Sem
import Derived.Laws.Append
import Derived.Laws.Tables
import Derived.Laws.Strings
import Derived.Laws.Concat
import Derived.Laws.StructEq
import Derived.Laws.BytesString
import Derived.Laws.CopyRow
/-
  What is proved here: a term made anew out of its bits has the same value.
  Conditions: none.
-/
namespace Go.Sy

section bits
variable (ρ : Nat → Int)

noncomputable def Bt.val : Bt → Nat
  | .z _ => 0
  | .o w => 2 ^ w - 1
  | .f a i w => (a.den ρ).toNat / 2 ^ i % 2 ^ w

noncomputable def bv : List Bt → Nat
  | [] => 0
  | p :: l => p.val ρ + 2 ^ p.w * bv l

theorem two_pos' (n : Nat) : 0 < 2 ^ n := Nat.pow_pos (by omega)

theorem val_lt (p : Bt) : p.val ρ < 2 ^ p.w := by
  cases p with
  | z w => exact two_pos' w
  | o w => have := two_pos' w; show 2 ^ w - 1 < 2 ^ w; omega
  | f a o w => exact Nat.mod_lt _ (two_pos' w)

theorem ones_mod {n w : Nat} (h : n ≤ w) : (2 ^ w - 1) % 2 ^ n = 2 ^ n - 1 := by
  obtain ⟨d, rfl⟩ := Nat.exists_eq_add_of_le h
  have h1 := two_pos' n
  have h2 := two_pos' d
  have : 2 ^ (n + d) - 1 = (2 ^ n - 1) + 2 ^ n * (2 ^ d - 1) := by
    rw [Nat.pow_add, Nat.mul_sub, Nat.mul_one]
    have : 2 ^ n ≤ 2 ^ n * 2 ^ d := Nat.le_mul_of_pos_right _ h2
    omega
  rw [this, Nat.add_mul_mod_self_left]
  exact Nat.mod_eq_of_lt (by omega)

theorem ones_div {n w : Nat} (h : n ≤ w) : (2 ^ w - 1) / 2 ^ n = 2 ^ (w - n) - 1 := by
  obtain ⟨d, rfl⟩ := Nat.exists_eq_add_of_le h
  have h1 := two_pos' n
  have h2 := two_pos' d
  have : 2 ^ (n + d) - 1 = (2 ^ n - 1) + 2 ^ n * (2 ^ d - 1) := by
    rw [Nat.pow_add, Nat.mul_sub, Nat.mul_one]
    have : 2 ^ n ≤ 2 ^ n * 2 ^ d := Nat.le_mul_of_pos_right _ h2
    omega
  rw [this, Nat.add_mul_div_left _ _ h1, Nat.div_eq_of_lt (by omega), Nat.zero_add, Nat.add_sub_cancel_left]

theorem cut_w (p : Bt) (n : Nat) : (p.cut n).w = n := by cases p <;> rfl
theorem rest_w (p : Bt) (n : Nat) : (p.rest n).w = p.w - n := by cases p <;> rfl

theorem cut_val {p : Bt} {n : Nat} (h : n ≤ p.w) : (p.cut n).val ρ = p.val ρ % 2 ^ n := by
  cases p with
  | z w => exact (Nat.zero_mod _).symm
  | o w => exact (ones_mod h).symm
  | f a o w =>
    show (a.den ρ).toNat / 2 ^ o % 2 ^ n = (a.den ρ).toNat / 2 ^ o % 2 ^ w % 2 ^ n
    exact (Nat.mod_mod_of_dvd _ (Nat.pow_dvd_pow 2 h)).symm

theorem mod_div_pow (x : Nat) {n w : Nat} (h : n ≤ w) : x % 2 ^ w / 2 ^ n = x / 2 ^ n % 2 ^ (w - n) := by
  obtain ⟨d, rfl⟩ := Nat.exists_eq_add_of_le h
  rw [Nat.add_sub_cancel_left, Nat.pow_add, Nat.mod_mul, Nat.add_mul_div_left _ _ (two_pos' n), Nat.div_eq_of_lt (Nat.mod_lt _ (two_pos' n)), Nat.zero_add]

theorem rest_val {p : Bt} {n : Nat} (h : n ≤ p.w) : (p.rest n).val ρ = p.val ρ / 2 ^ n := by
  cases p with
  | z w => exact (Nat.zero_div _).symm
  | o w => exact (ones_div h).symm
  | f a o w =>
    show (a.den ρ).toNat / 2 ^ (o + n) % 2 ^ (w - n) = (a.den ρ).toNat / 2 ^ o % 2 ^ w / 2 ^ n
    have h : n ≤ w := h
    rw [mod_div_pow _ h, Nat.pow_add, Nat.div_div_eq_div_mul]

theorem bv_lt : ∀ (l : List Bt), bv ρ l < 2 ^ widB l
  | [] => by show 0 < 2 ^ 0; decide
  | p :: l => by
    have h1 := val_lt ρ p
    have h2 := bv_lt l
    show p.val ρ + 2 ^ p.w * bv ρ l < 2 ^ (p.w + widB l)
    rw [Nat.pow_add]
    have : 2 ^ p.w * bv ρ l + 2 ^ p.w ≤ 2 ^ p.w * 2 ^ widB l := by
      rw [← Nat.mul_succ]; exact Nat.mul_le_mul_left _ h2
    omega

theorem takeB_val : ∀ (l : List Bt) (n : Nat), bv ρ (takeB l n) = bv ρ l % 2 ^ n
  | [], n => (Nat.zero_mod _).symm
  | p :: l, n => by
    show bv ρ (selB (Nat.ble n p.w) [p.cut n] (p :: takeB l (n - p.w))) = (p.val ρ + 2 ^ p.w * bv ρ l) % 2 ^ n
    cases h : Nat.ble n p.w with
    | true =>
      rw [ble_iff] at h
      show (p.cut n).val ρ + 2 ^ (p.cut n).w * 0 = _
      rw [cut_val ρ h, Nat.mul_zero, Nat.add_zero]
      obtain ⟨d, hd⟩ := Nat.exists_eq_add_of_le h
      rw [hd, Nat.pow_add, Nat.mul_assoc, Nat.add_mul_mod_self_left]
    | false =>
      rw [ble_false] at h
      show p.val ρ + 2 ^ p.w * bv ρ (takeB l (n - p.w)) = _
      rw [takeB_val l]
      obtain ⟨d, rfl⟩ := Nat.exists_eq_add_of_le (Nat.le_of_lt h)
      rw [Nat.add_sub_cancel_left, Nat.pow_add, Nat.mod_mul, Nat.add_mul_mod_self_left, Nat.mod_eq_of_lt (val_lt ρ p), Nat.add_mul_div_left _ _ (two_pos' _), Nat.div_eq_of_lt (val_lt ρ p), Nat.zero_add]

theorem dropB_val : ∀ (l : List Bt) (n : Nat), bv ρ (dropB l n) = bv ρ l / 2 ^ n
  | [], n => (Nat.zero_div _).symm
  | p :: l, n => by
    show bv ρ (selB (Nat.blt n p.w) (p.rest n :: l) (dropB l (n - p.w))) = (p.val ρ + 2 ^ p.w * bv ρ l) / 2 ^ n
    cases h : Nat.blt n p.w with
    | true =>
      rw [blt_iff] at h
      show (p.rest n).val ρ + 2 ^ (p.rest n).w * bv ρ l = _
      rw [rest_w, rest_val ρ (Nat.le_of_lt h)]
      obtain ⟨d, hd⟩ := Nat.exists_eq_add_of_le (Nat.le_of_lt h)
      rw [hd, Nat.add_sub_cancel_left, Nat.pow_add, Nat.mul_assoc, Nat.add_mul_div_left _ _ (two_pos' n)]
    | false =>
      rw [blt_false] at h
      show bv ρ (dropB l (n - p.w)) = _
      rw [dropB_val l]
      obtain ⟨d, rfl⟩ := Nat.exists_eq_add_of_le h
      rw [Nat.add_sub_cancel_left, Nat.pow_add, ← Nat.div_div_eq_div_mul, Nat.add_mul_div_left _ _ (two_pos' _), Nat.div_eq_of_lt (val_lt ρ p), Nat.zero_add]

/-! ### two numbers -/

theorem zipB_val {g : Bt → Bt → Option Bt} {or : Bool} (f : Nat → Nat → Nat)
    (hs : ∀ w x y a b, x < 2 ^ w → y < 2 ^ w → f (x + 2 ^ w * a) (y + 2 ^ w * b) = f x y + 2 ^ w * f a b)
    (hg : ∀ p q r, g p q = some r → p.w = q.w → r.w = p.w ∧ r.val ρ = f (p.val ρ) (q.val ρ))
    (h0 : ∀ b, f 0 b = if or then b else 0) (h1 : ∀ a, f a 0 = if or then a else 0) :
    ∀ (n : Nat) (a b l : List Bt), zipB g or n a b = some l → bv ρ l = f (bv ρ a) (bv ρ b)
  | 0, _, _, _, h => nomatch h
  | n + 1, [], b, l, h => by
    have h : some (selB or b []) = some l := h
    rw [← Option.some.inj h]
    show _ = f 0 _
    rw [h0]
    cases or <;> rfl
  | n + 1, p :: a, [], l, h => by
    have h : some (selB or (p :: a) []) = some l := h
    rw [← Option.some.inj h]
    show _ = f _ 0
    rw [h1]
    cases or <;> rfl
  | n + 1, p :: a, q :: b, l, h => by
    have hc : ∀ {x : Option Bt} {y : Option (List Bt)} {l}, consOB x y = some l → ∃ r m, x = some r ∧ y = some m ∧ l = r :: m := by
      intro x y l h
      cases x with
      | none => exact nomatch h
      | some r =>
        cases y with
        | none => exact nomatch h
        | some m => exact ⟨r, m, rfl, rfl, (Option.some.inj h).symm⟩
    have h : selB (Nat.beq p.w q.w) (consOB (g p q) (zipB g or n a b)) (selB (Nat.blt p.w q.w) (consOB (g p (q.cut p.w)) (zipB g or n a (q.rest p.w :: b))) (consOB (g (p.cut q.w) q) (zipB g or n (p.rest q.w :: a) b))) = some l := h
    show bv ρ l = f (p.val ρ + 2 ^ p.w * bv ρ a) (q.val ρ + 2 ^ q.w * bv ρ b)
    cases he : Nat.beq p.w q.w with
    | true =>
      rw [he] at h
      obtain ⟨r, m, h2, h3, rfl⟩ := hc h
      rw [beq_iff] at he
      obtain ⟨h4, h5⟩ := hg p q r h2 he
      show r.val ρ + 2 ^ r.w * bv ρ m = _
      rw [zipB_val f hs hg h0 h1 n a b m h3, h4, h5, ← he, hs _ _ _ _ _ (val_lt ρ p) (he ▸ val_lt ρ q)]
    | false =>
      rw [he] at h
      cases hl : Nat.blt p.w q.w with
      | true =>
        rw [hl] at h
        obtain ⟨r, m, h2, h3, rfl⟩ := hc h
        rw [blt_iff] at hl
        obtain ⟨h4, h5⟩ := hg p _ r h2 (cut_w q p.w).symm
        show r.val ρ + 2 ^ r.w * bv ρ m = _
        have hq : q.val ρ + 2 ^ q.w * bv ρ b = (q.cut p.w).val ρ + 2 ^ p.w * bv ρ (q.rest p.w :: b) := by
          show _ = (q.cut p.w).val ρ + 2 ^ p.w * ((q.rest p.w).val ρ + 2 ^ (q.rest p.w).w * bv ρ b)
          rw [cut_val ρ (Nat.le_of_lt hl), rest_val ρ (Nat.le_of_lt hl), rest_w, Nat.mul_add, ← Nat.add_assoc, Nat.mod_add_div, ← Nat.mul_assoc, ← Nat.pow_add, Nat.add_sub_cancel' (Nat.le_of_lt hl)]
        rw [zipB_val f hs hg h0 h1 n _ _ m h3, h4, h5, hq, hs _ _ _ _ _ (val_lt ρ p) (by have := val_lt ρ (q.cut p.w); rwa [cut_w] at this)]
      | false =>
        rw [hl] at h
        obtain ⟨r, m, h2, h3, rfl⟩ := hc h
        rw [blt_false] at hl
        obtain ⟨h4, h5⟩ := hg _ q r h2 (cut_w p q.w)
        show r.val ρ + 2 ^ r.w * bv ρ m = _
        have hp : p.val ρ + 2 ^ p.w * bv ρ a = (p.cut q.w).val ρ + 2 ^ q.w * bv ρ (p.rest q.w :: a) := by
          show _ = (p.cut q.w).val ρ + 2 ^ q.w * ((p.rest q.w).val ρ + 2 ^ (p.rest q.w).w * bv ρ a)
          rw [cut_val ρ hl, rest_val ρ hl, rest_w, Nat.mul_add, ← Nat.add_assoc, Nat.mod_add_div, ← Nat.mul_assoc, ← Nat.pow_add, Nat.add_sub_cancel' hl]
        rw [zipB_val f hs hg h0 h1 n _ _ m h3, h4, h5, cut_w, hp, hs _ _ _ _ _ (by have := val_lt ρ (p.cut q.w); rwa [cut_w] at this) (val_lt ρ q)]

theorem orP_cases {p q r : Bt} (h : orP p q = some r) : (isZ p = true ∧ r = q) ∨ (isZ q = true ∧ r = p) := by
  cases p <;> cases q <;> first
    | exact .inl ⟨rfl, (Option.some.inj h).symm⟩
    | exact .inr ⟨rfl, (Option.some.inj h).symm⟩
    | exact nomatch h

theorem isZ_val {p : Bt} (h : isZ p = true) : p.val ρ = 0 := by
  cases p with
  | z w => rfl
  | o w => exact nomatch h
  | f a o w => exact nomatch h

theorem bits_split (op : Bool → Bool → Bool) (f : Nat → Nat → Nat) (hf : ∀ x y i, (f x y).testBit i = op (x.testBit i) (y.testBit i)) (hl : ∀ w x y, x < 2 ^ w → y < 2 ^ w → f x y < 2 ^ w)
    (w x y a b : Nat) (hx : x < 2 ^ w) (hy : y < 2 ^ w) : f (x + 2 ^ w * a) (y + 2 ^ w * b) = f x y + 2 ^ w * f a b := by
  apply Nat.eq_of_testBit_eq
  intro i
  rw [hf, Nat.add_comm x, Nat.add_comm y, Nat.add_comm (f x y), Nat.testBit_two_pow_mul_add _ hx, Nat.testBit_two_pow_mul_add _ hy, Nat.testBit_two_pow_mul_add _ (hl w x y hx hy)]
  by_cases hi : i < w
  · simp only [hi, if_true]; rw [hf]
  · simp only [hi, if_false]; rw [hf]

theorem zip_add {n : Nat} {a b l : List Bt} (h : zipB orP true n a b = some l) : bv ρ l = bv ρ a + bv ρ b :=
  zipB_val ρ (· + ·) (fun w x y a b _ _ => by
    show x + 2 ^ w * a + (y + 2 ^ w * b) = x + y + 2 ^ w * (a + b)
    rw [Nat.mul_add]; omega) (fun p q r hr hw => by
    rcases orP_cases hr with ⟨hz, rfl⟩ | ⟨hz, rfl⟩
    · exact ⟨hw.symm, by show _ = p.val ρ + _; rw [isZ_val ρ hz, Nat.zero_add]⟩
    · exact ⟨rfl, by show _ = _ + q.val ρ; rw [isZ_val ρ hz, Nat.add_zero]⟩) (fun b => by simp) (fun b => by simp) n a b l h

theorem zip_or {n : Nat} {a b l : List Bt} (h : zipB orP true n a b = some l) : bv ρ l = bv ρ a ||| bv ρ b :=
  zipB_val ρ (· ||| ·) (bits_split (· || ·) (· ||| ·) (fun x y i => Nat.testBit_or x y i) (fun w x y hx hy => Nat.or_lt_two_pow hx hy)) (fun p q r hr hw => by
    rcases orP_cases hr with ⟨hz, rfl⟩ | ⟨hz, rfl⟩
    · exact ⟨hw.symm, by show _ = p.val ρ ||| _; rw [isZ_val ρ hz, Nat.zero_or]⟩
    · exact ⟨rfl, by show _ = _ ||| q.val ρ; rw [isZ_val ρ hz, Nat.or_zero]⟩) (fun b => by simp) (fun b => by simp) n a b l h

theorem ones_and {w x : Nat} (h : x < 2 ^ w) : (2 ^ w - 1) &&& x = x := by
  rw [Nat.and_comm, Nat.and_two_pow_sub_one_eq_mod, Nat.mod_eq_of_lt h]

theorem and_ones {w x : Nat} (h : x < 2 ^ w) : x &&& (2 ^ w - 1) = x := by
  rw [Nat.and_two_pow_sub_one_eq_mod, Nat.mod_eq_of_lt h]

theorem andP_ok {p q r : Bt} (h : andP p q = some r) (hw : p.w = q.w) : r.w = p.w ∧ r.val ρ = p.val ρ &&& q.val ρ := by
  have ho : ∀ {w} {x : Bt}, x.w = w → (2 ^ w - 1) &&& x.val ρ = x.val ρ := fun {w x} hx => ones_and (hx ▸ val_lt ρ x)
  have ho' : ∀ {w} {x : Bt}, x.w = w → x.val ρ &&& (2 ^ w - 1) = x.val ρ := fun {w x} hx => and_ones (hx ▸ val_lt ρ x)
  cases p with
  | z w =>
    have h : some (Bt.z w) = some r := h
    rw [← Option.some.inj h]
    exact ⟨rfl, by show 0 = 0 &&& _; rw [Nat.zero_and]⟩
  | o w =>
    have h : some q = some r := h
    rw [← Option.some.inj h]
    exact ⟨hw.symm, (ho hw.symm).symm⟩
  | f a i w =>
    cases q with
    | z u =>
      have h : some (Bt.z u) = some r := h
      rw [← Option.some.inj h]
      exact ⟨hw.symm, by show 0 = _ &&& 0; rw [Nat.and_zero]⟩
    | o u =>
      have h : some (Bt.f a i w) = some r := h
      rw [← Option.some.inj h]
      exact ⟨rfl, (ho' hw).symm⟩
    | f b j u => exact nomatch h

theorem zip_and {n : Nat} {a b l : List Bt} (h : zipB andP false n a b = some l) : bv ρ l = bv ρ a &&& bv ρ b :=
  zipB_val ρ (· &&& ·) (bits_split (· && ·) (· &&& ·) (fun x y i => Nat.testBit_and x y i) (fun w x y hx _ => Nat.lt_of_le_of_lt Nat.and_le_left hx)) (fun p q r hr hw => andP_ok ρ hr hw) (fun b => by simp) (fun b => by simp) n a b l h

/-! ### normal forms -/

theorem joinP_ok {p q r : Bt} (h : joinP p q = some r) : r.w = p.w + q.w ∧ r.val ρ = p.val ρ + 2 ^ p.w * q.val ρ := by
  cases p with
  | z w =>
    cases q with
    | z u =>
      have h : some (Bt.z (w + u)) = some r := h
      rw [← Option.some.inj h]
      exact ⟨rfl, by show 0 = 0 + 2 ^ w * 0; omega⟩
    | o u => exact nomatch h
    | f b j u => exact nomatch h
  | o w =>
    cases q with
    | z u => exact nomatch h
    | o u =>
      have h : some (Bt.o (w + u)) = some r := h
      rw [← Option.some.inj h]
      refine ⟨rfl, ?_⟩
      show 2 ^ (w + u) - 1 = (2 ^ w - 1) + 2 ^ w * (2 ^ u - 1)
      have h1 := two_pos' w
      have h2 := two_pos' u
      rw [Nat.pow_add, Nat.mul_sub, Nat.mul_one]
      have : 2 ^ w ≤ 2 ^ w * 2 ^ u := Nat.le_mul_of_pos_right _ h2
      omega
    | f b j u => exact nomatch h
  | f a i w =>
    cases q with
    | z u => exact nomatch h
    | o u => exact nomatch h
    | f b j u =>
      have h : selB (andB (Nat.beq j (i + w)) (E.beq a b)) (some (Bt.f a i (w + u))) none = some r := h
      generalize hb : andB (Nat.beq j (i + w)) (E.beq a b) = c at h
      cases c with
      | false => exact nomatch h
      | true =>
        have h : some (Bt.f a i (w + u)) = some r := h
        rw [andB_eq, Bool.and_eq_true, beq_iff] at hb
        rw [← Option.some.inj h]
        refine ⟨rfl, ?_⟩
        show (a.den ρ).toNat / 2 ^ i % 2 ^ (w + u) = (a.den ρ).toNat / 2 ^ i % 2 ^ w + 2 ^ w * ((b.den ρ).toNat / 2 ^ j % 2 ^ u)
        rw [← E.beq_eq hb.2, hb.1, Nat.pow_add, Nat.mod_mul, Nat.pow_add, Nat.div_div_eq_div_mul]

theorem consB_val (p : Bt) (l : List Bt) : bv ρ (consB p l) = p.val ρ + 2 ^ p.w * bv ρ l := by
  unfold consB
  cases h : Nat.beq p.w 0 with
  | true =>
    rw [beq_iff] at h
    have := val_lt ρ p
    rw [h] at this ⊢
    show bv ρ l = _
    omega
  | false =>
    cases l with
    | nil =>
      show bv ρ (selB (isZ p) [] [p]) = _ + _ * 0
      cases hz : isZ p with
      | true => show 0 = _; rw [isZ_val ρ hz]; omega
      | false => rfl
    | cons q r =>
      show bv ρ (Option.rec (p :: q :: r) (fun j => j :: r) (joinP p q) : List Bt) = _
      cases hj : joinP p q with
      | none => rfl
      | some j =>
        obtain ⟨h1, h2⟩ := joinP_ok ρ hj
        show j.val ρ + 2 ^ j.w * bv ρ r = p.val ρ + 2 ^ p.w * (q.val ρ + 2 ^ q.w * bv ρ r)
        rw [h1, h2, Nat.pow_add, Nat.mul_add, Nat.mul_assoc]; omega

theorem normB_val : ∀ (l : List Bt), bv ρ (normB l) = bv ρ l
  | [] => rfl
  | p :: l => by
    show bv ρ (consB p (normB l)) = p.val ρ + _
    rw [consB_val, normB_val l]

theorem bitsL_val : ∀ (n v : Nat), v < 2 ^ n → bv ρ (bitsL n v) = v
  | 0, v, h => by show 0 = v; have : v < 1 := h; omega
  | n + 1, v, h => by
    have hd : v / 2 < 2 ^ n := by rw [Nat.pow_succ] at h; omega
    show bv ρ (selB (Nat.beq (v % 2) 0) (.z 1) (.o 1) :: bitsL n (v / 2)) = v
    cases hb : Nat.beq (v % 2) 0 with
    | true =>
      rw [beq_iff] at hb
      show 0 + 2 ^ 1 * bv ρ (bitsL n (v / 2)) = v
      rw [bitsL_val n _ hd]; omega
    | false =>
      rw [beq_false] at hb
      show (2 ^ 1 - 1) + 2 ^ 1 * bv ρ (bitsL n (v / 2)) = v
      rw [bitsL_val n _ hd]; omega

theorem numB_val (v : Nat) : bv ρ (numB v) = v := by
  show bv ρ (normB _) = v
  rw [normB_val]
  exact bitsL_val ρ _ v Nat.lt_log2_self

/-! ### kinds -/

theorem lim_kb (k : IntKind) : limN k = 2 ^ kb k := by cases k <;> rfl
theorem kb_le (k : IntKind) : kb k ≤ k.bits := by cases k <;> decide

theorem wrap_fit {k : IntKind} {v : Nat} (h : v < 2 ^ kb k) : k.wrap (v : Int) = v :=
  wrap_in k v (by have : kMin k ≤ 0 := by { cases k <;> simp [kMin, IntKind.signed, limN] }
                  omega) (by simp only [kMax, lim_kb]; omega)

theorem wrap_uns {k : IntKind} (hk : k.signed = false) (v : Nat) : k.wrap (v : Int) = ((v % 2 ^ kb k : Nat) : Int) := by
  cases k <;> first
    | (exact absurd hk (by decide))
    | (simp [IntKind.wrap, IntKind.signed, IntKind.bits, kb])

theorem wrap_back {k : IntKind} (hk : k.signed = false) (z : Int) : k.wrap (z - ((2 ^ kb k : Nat) : Int)) = k.wrap z := by
  unfold IntKind.wrap
  have e : ((2 ^ kb k : Nat) : Int) = 2 ^ k.bits := by cases k <;> first | rfl | exact absurd hk (by simp [IntKind.signed])
  simp [hk, e]

theorem pow_le' {a b : Nat} (h : a ≤ b) : 2 ^ a ≤ 2 ^ b := Nat.pow_le_pow_right (by omega) h

theorem fitB_ok {k : IntKind} {l r : List Bt} (h : fitB k l = some r) : k.wrap ((bv ρ l : Nat) : Int) = ((bv ρ r : Nat) : Int) := by
  have h : selB (Nat.ble (widB (normB l)) (kb k)) (some (normB l)) (selB k.signed none (some (normB (takeB (normB l) (kb k))))) = some r := h
  cases hw : Nat.ble (widB (normB l)) (kb k) with
  | true =>
    rw [hw] at h
    rw [← Option.some.inj (show some (normB l) = some r from h), normB_val]
    rw [ble_iff] at hw
    have := bv_lt ρ (normB l)
    rw [normB_val] at this
    exact wrap_fit (Nat.lt_of_lt_of_le this (pow_le' hw))
  | false =>
    rw [hw] at h
    cases hk : k.signed with
    | true => rw [hk] at h; exact nomatch h
    | false =>
      rw [hk] at h
      rw [← Option.some.inj (show some (normB (takeB (normB l) (kb k))) = some r from h), normB_val, takeB_val, normB_val]
      exact wrap_uns hk _

theorem onO_some {α β : Type} {x : Option α} {f : α → Option β} {v : β} (h : onO x f = some v) : ∃ a, x = some a ∧ f a = some v := by
  cases x with
  | none => exact nomatch h
  | some a => exact ⟨a, rfl, h⟩

theorem fitO_ok {k : IntKind} {l : Option (List Bt)} {r : List Bt} (h : fitO k l = some r) : ∃ m, l = some m ∧ k.wrap ((bv ρ m : Nat) : Int) = ((bv ρ r : Nat) : Int) := by
  cases l with
  | none => exact nomatch h
  | some m => exact ⟨m, rfl, fitB_ok ρ h⟩

theorem powE_ok {e : E} {c : Nat} (h : powE e = some c) : e.den ρ = ((2 ^ c : Nat) : Int) := by
  rcases onN_cases' h with ⟨z, rfl, h⟩ | h
  · cases z with
    | negSucc m => exact nomatch h
    | ofNat m =>
      have h : selB (Nat.beq (Nat.pow 2 (Nat.log2 m)) m) (some (Nat.log2 m)) none = some c := h
      cases hb : Nat.beq (Nat.pow 2 (Nat.log2 m)) m with
      | false => rw [hb] at h; exact nomatch h
      | true =>
        rw [hb] at h
        rw [← Option.some.inj (show some (Nat.log2 m) = some c from h)]
        rw [beq_iff] at hb
        show ((m : Nat) : Int) = ((2 ^ Nat.log2 m : Nat) : Int)
        exact congrArg Int.ofNat hb.symm
  · exact nomatch h

theorem numE_ok {e : E} {c : Nat} (h : numE e = some c) : e.den ρ = (c : Int) := by
  rcases onN_cases' h with ⟨z, rfl, h⟩ | h
  · cases z with
    | negSucc m => exact nomatch h
    | ofNat m =>
      rw [← Option.some.inj (show some m = some c from h)]
      rfl
  · exact nomatch h

theorem zip2_eq (g : Bt → Bt → Option Bt) (or : Bool) (l r : List Bt) : zip2 g or l r = zipB g or (Nat.succ (Nat.add (lenL l) (lenL r))) l r := rfl

theorem zv (w : Nat) (l : List Bt) : bv ρ (.z w :: l) = 2 ^ w * bv ρ l := by show 0 + _ = _; rw [Nat.zero_add]; rfl

theorem bits_den {op : BinOp} {k : IntKind} {x y : Nat} (h1 : x < 2 ^ kb k) (h2 : y < 2 ^ kb k) : bitsF op k (x : Int) (y : Int) = ((bitsN op x y : Nat) : Int) := by
  show (Bool.rec (bitsZ op k (Int.ofNat x) (Int.ofNat y)) (Int.ofNat (bitsN op x y)) (andB (Nat.blt x (limN k)) (Nat.blt y (limN k))) : Int) = _
  have e1 : Nat.blt x (limN k) = true := by rw [blt_iff, lim_kb]; exact h1
  have e2 : Nat.blt y (limN k) = true := by rw [blt_iff, lim_kb]; exact h2
  rw [e1, e2]; rfl

theorem selB_someB {α : Type} {c : Bool} {x : Option α} {v : α} (h : selB c x none = some v) : c = true ∧ x = some v := by
  cases c with
  | false => exact nomatch h
  | true => exact ⟨rfl, h⟩

theorem lt_kb {k : IntKind} {l : List Bt} (h : Nat.ble (widB l) (kb k) = true) : bv ρ l < 2 ^ kb k := by
  rw [ble_iff] at h
  exact Nat.lt_of_lt_of_le (bv_lt ρ l) (pow_le' h)

theorem andB0_ok {k : IntKind} {l r m : List Bt} (h : andB0 k l r = some m) : bv ρ l < 2 ^ kb k ∧ bv ρ r < 2 ^ kb k ∧ bv ρ m = bv ρ l &&& bv ρ r := by
  obtain ⟨h1, h2⟩ := selB_someB (show selB (andB (Nat.ble (widB l) (kb k)) (Nat.ble (widB r) (kb k))) (onO (zip2 andP false l r) (fun l => some (normB l))) none = some m from h)
  rw [andB_eq, Bool.and_eq_true] at h1
  obtain ⟨s, h3, h4⟩ := onO_some h2
  exact ⟨lt_kb ρ h1.1, lt_kb ρ h1.2, by rw [← Option.some.inj h4, normB_val, zip_and ρ h3]⟩

theorem andNot_val {n x c : Nat} (hx : x < 2 ^ n) (hc : c < 2 ^ n) : bitsN .andNot x c = x &&& (2 ^ n - 1 - c) := by
  show x ^^^ (x &&& c) = _
  refine Nat.eq_of_testBit_eq fun i => ?_
  rw [show 2 ^ n - 1 - c = 2 ^ n - (c + 1) by omega, Nat.testBit_xor, Nat.testBit_and, Nat.testBit_and, Nat.testBit_two_pow_sub_succ hc]
  by_cases hi : i < n
  · simp [hi]; cases x.testBit i <;> cases c.testBit i <;> rfl
  · have : x.testBit i = false := Nat.testBit_lt_two_pow (Nat.lt_of_lt_of_le hx (Nat.pow_le_pow_right (by omega) (by omega)))
    simp [this]

/-- the lowest bit that is one -/
theorem low_bit {n m r : Nat} (h : 2 * r + 1 < 2 ^ m) : (2 ^ n * (2 * r + 1)) &&& (2 ^ n * (2 ^ m - (2 * r + 1))) = 2 ^ n := by
  have key : (2 * r + 1) &&& (2 ^ m - (2 * r + 1)) = 1 := by
    refine Nat.eq_of_testBit_eq fun i => ?_
    rw [Nat.testBit_and, Nat.testBit_two_pow_sub_succ (by omega : 2 * r < 2 ^ m)]
    cases i with
    | zero =>
      have : 0 < m := by
        cases m with
        | zero => simp at h
        | succ m => omega
      simp [this, Nat.testBit_zero]
    | succ i =>
      have e1 : (2 * r + 1).testBit (i + 1) = r.testBit i := by rw [Nat.testBit_succ]; congr 1; omega
      have e2 : (2 * r).testBit (i + 1) = r.testBit i := by rw [Nat.testBit_succ]; congr 1; omega
      have e3 : (1 : Nat).testBit (i + 1) = false := by rw [Nat.testBit_succ]; simp
      rw [e1, e2, e3]
      cases r.testBit i <;> simp
  have e : ∀ x y : Nat, (2 ^ n * x) &&& (2 ^ n * y) = 2 ^ n * (x &&& y) := fun x y => by
    rw [Nat.mul_comm, Nat.mul_comm (2 ^ n) y, Nat.mul_comm (2 ^ n), ← Nat.shiftLeft_eq, ← Nat.shiftLeft_eq, ← Nat.shiftLeft_eq, Nat.shiftLeft_and_distrib]
  rw [e, key, Nat.mul_one]

theorem lowL_ok {l m : List Bt} (h : lowL l = some m) : ∃ n r, bv ρ l = 2 ^ n * (2 * r + 1) ∧ bv ρ m = 2 ^ n := by
  have ones : ∀ (w : Nat) (s : List Bt), 0 < w → ∃ r, bv ρ (.o w :: s) = 2 * r + 1 := fun w s hw => by
    obtain ⟨u, rfl⟩ : ∃ u, w = u + 1 := ⟨w - 1, by omega⟩
    refine ⟨2 ^ u - 1 + 2 ^ u * bv ρ s, ?_⟩
    show 2 ^ (u + 1) - 1 + 2 ^ (u + 1) * bv ρ s = _
    have := two_pos' u
    rw [Nat.pow_succ, Nat.mul_comm (2 ^ u) 2, Nat.mul_add, Nat.mul_assoc]
    omega
  cases l with
  | nil => exact absurd (show none = some m from h) (by simp)
  | cons p l =>
    cases p with
    | f a i w => exact absurd (show none = some m from h) (by simp)
    | o w =>
      obtain ⟨h1, h2⟩ := selB_someB (show selB (Nat.blt 0 w) (some [.o 1]) none = some m from h)
      rw [blt_iff] at h1
      obtain ⟨r, hr⟩ := ones w l h1
      refine ⟨0, r, by rw [hr]; omega, ?_⟩
      rw [← Option.some.inj h2]; rfl
    | z n =>
      cases l with
      | nil => exact absurd (show none = some m from h) (by simp)
      | cons q l =>
        cases q with
        | z _ => exact absurd (show none = some m from h) (by simp)
        | f a i w => exact absurd (show none = some m from h) (by simp)
        | o w =>
          obtain ⟨h1, h2⟩ := selB_someB (show selB (Nat.blt 0 w) (some [.z n, .o 1]) none = some m from h)
          rw [blt_iff] at h1
          obtain ⟨r, hr⟩ := ones w l h1
          refine ⟨n, r, by rw [zv, hr], ?_⟩
          rw [← Option.some.inj h2, zv]; show 2 ^ n * (2 ^ 1 - 1 + 2 ^ 1 * 0) = _; omega

theorem lowB_ok {k : IntKind} {l m : List Bt} {a b : E} (ha : a.den ρ = ((bv ρ l : Nat) : Int)) (h : lowB k l a b = some m) : bitsF .and k (a.den ρ) (b.den ρ) = ((bv ρ m : Nat) : Int) := by
  obtain ⟨h1, h2⟩ := selB_someB h
  rw [andB_eq, Bool.and_eq_true, andB_eq, Bool.and_eq_true] at h1
  obtain ⟨⟨h3, h4⟩, h5⟩ := h1
  have hs : k.signed = false := by cases hk : k.signed <;> simp_all [notB]
  cases b with
  | bin op k' x y =>
    have h5 : andB (andB (Nat.beq (opNo op) 1) (Nat.beq (kindNo k) (kindNo k'))) (andB (onN x (fun z => eqZ z 0) false) (E.beq a y)) = true := h5
    rw [andB_eq, Bool.and_eq_true, andB_eq, Bool.and_eq_true, andB_eq, Bool.and_eq_true] at h5
    obtain ⟨⟨h6, h7⟩, h8, h9⟩ := h5
    have e1 : op = .sub := opNo_inj (k' := .sub) h6
    have e2 := kindNo_inj h7
    have e3 := E.beq_eq h9
    subst e1; subst e2; subst e3
    have e4 : x.den ρ = 0 := by
      cases x with
      | n z => rw [(eqZ_iff z 0).1 h8]; rfl
      | _ => exact absurd (show false = true from h8) (by simp)
    obtain ⟨n, r, g1, g2⟩ := lowL_ok ρ h2
    have hlt := lt_kb ρ h4
    rw [g1] at hlt
    have eb : (E.bin .sub k x a).den ρ = ((2 ^ kb k - 2 ^ n * (2 * r + 1) : Nat) : Int) := by
      show wrapZ k (x.den ρ - a.den ρ) = _
      rw [wrapZ_eq, e4, ha, g1]
      have hpos : 0 < 2 ^ n * (2 * r + 1) := Nat.mul_pos (two_pos' n) (by omega)
      have e5 : (0 : Int) - ((2 ^ n * (2 * r + 1) : Nat) : Int) = ((2 ^ kb k - 2 ^ n * (2 * r + 1) : Nat) : Int) - ((2 ^ kb k : Nat) : Int) := by
        rw [Int.ofNat_sub (Nat.le_of_lt hlt)]; omega
      rw [e5, wrap_back hs, wrap_fit (by omega)]
    rw [eb, ha, g1, g2]
    rw [bits_den hlt (by have := two_pos' n; have hpos : 0 < 2 ^ n * (2 * r + 1) := Nat.mul_pos (two_pos' n) (by omega); omega)]
    obtain ⟨d, hd⟩ : ∃ d, kb k = n + d := ⟨kb k - n, by
      have : n ≤ kb k := by
        refine Nat.le_of_not_lt fun hn => ?_
        have := pow_le' (Nat.le_of_lt hn)
        have : 2 ^ n ≤ 2 ^ n * (2 * r + 1) := Nat.le_mul_of_pos_right _ (by omega)
        omega
      omega⟩
    rw [hd, Nat.pow_add] at hlt
    rw [hd, Nat.pow_add]
    have hlt2 : 2 * r + 1 < 2 ^ d := Nat.lt_of_mul_lt_mul_left hlt
    show (((2 ^ n * (2 * r + 1)) &&& (2 ^ n * 2 ^ d - 2 ^ n * (2 * r + 1)) : Nat) : Int) = _
    rw [← Nat.mul_sub, low_bit hlt2]
  | _ => exact absurd (show false = true from h5) (by simp)

theorem binB_ok {op : BinOp} {k : IntKind} {l r m : List Bt} {a b : E} (ha : a.den ρ = ((bv ρ l : Nat) : Int)) (hb : b.den ρ = ((bv ρ r : Nat) : Int)) (h : binB op k l r a b = some m) :
    (E.bin op k a b).den ρ = ((bv ρ m : Nat) : Int) := by
  show binZ op k (a.den ρ) (b.den ρ) = _
  cases op
  case add =>
    obtain ⟨s, h1, h2⟩ := fitO_ok ρ (show fitO k (zip2 orP true l r) = some m from h)
    show wrapZ k (a.den ρ + b.den ρ) = _
    rw [wrapZ_eq, ha, hb, ← h2, zip_add ρ h1]; push_cast; rfl
  case mul =>
    have h : mulB k l r a b = some m := h
    show wrapZ k (a.den ρ * b.den ρ) = _
    rw [wrapZ_eq]
    have h : (Option.rec (onO (powE a) (fun c => fitB k (.z c :: r))) (fun c => fitB k (.z c :: l)) (powE b) : Option (List Bt)) = some m := h
    cases hp : powE b with
    | some c =>
      rw [hp] at h
      have h := fitB_ok ρ (show fitB k (.z c :: l) = some m from h)
      rw [← h, zv, ha, powE_ok ρ hp, Nat.mul_comm]; push_cast; rfl
    | none =>
      rw [hp] at h
      obtain ⟨c, h1, h2⟩ := onO_some (show onO (powE a) (fun c => fitB k (.z c :: r)) = some m from h)
      have h := fitB_ok ρ h2
      rw [← h, zv, hb, powE_ok ρ h1]; push_cast; rfl
  case quo =>
    obtain ⟨c, h1, h2⟩ := onO_some (show onO (powE b) (fun c => fitB k (dropB l c)) = some m from h)
    show wrapZ k ((a.den ρ).tdiv (b.den ρ)) = _
    rw [wrapZ_eq, powE_ok ρ h1, ← fitB_ok ρ h2, dropB_val, ha, ← Int.ofNat_tdiv]
  case rem =>
    obtain ⟨c, h1, h2⟩ := onO_some (show onO (powE b) (fun c => some (normB (takeB l c))) = some m from h)
    show (a.den ρ).tmod (b.den ρ) = _
    rw [← Option.some.inj h2, normB_val, takeB_val, powE_ok ρ h1, ha, ← Int.ofNat_tmod]
  case and =>
    show bitsF .and k (a.den ρ) (b.den ρ) = _
    have h : (Option.rec (andB0 k l r) (fun m => some m) (lowB k l a b) : Option (List Bt)) = some m := h
    cases hl : lowB k l a b with
    | none =>
      rw [hl] at h
      obtain ⟨h1, h2, h3⟩ := andB0_ok ρ (show andB0 k l r = some m from h)
      rw [ha, hb, bits_den h1 h2, h3]; rfl
    | some x =>
      rw [hl] at h
      have h := Option.some.inj (show some x = some m from h)
      subst h
      exact lowB_ok ρ ha hl
  case andNot =>
    obtain ⟨c, h1, h2⟩ := onO_some (show onO (numE b) (fun c => selB (Nat.blt c (Nat.pow 2 (kb k))) (andB0 k l (numB (notN k c))) none) = some m from h)
    obtain ⟨h3, h4⟩ := selB_someB h2
    obtain ⟨h5, _, h7⟩ := andB0_ok ρ h4
    have h3 : c < 2 ^ kb k := (blt_iff _ _).1 h3
    show bitsF .andNot k (a.den ρ) (b.den ρ) = _
    rw [ha, numE_ok ρ h1, bits_den h5 h3, h7, numB_val]
    exact congrArg _ (andNot_val h5 h3)
  case or =>
    obtain ⟨h1, h2⟩ := selB_someB (show selB (andB (Nat.ble (widB l) (kb k)) (Nat.ble (widB r) (kb k))) (onO (zip2 orP true l r) (fun l => some (normB l))) none = some m from h)
    rw [andB_eq, Bool.and_eq_true] at h1
    obtain ⟨s, h3, h4⟩ := onO_some h2
    show bitsF .or k (a.den ρ) (b.den ρ) = _
    rw [ha, hb, bits_den (lt_kb ρ h1.1) (lt_kb ρ h1.2), ← Option.some.inj h4, normB_val, zip_or ρ h3]; rfl
  case shl =>
    obtain ⟨c, h1, h2⟩ := onO_some (show onO (numE b) (fun c => selB (Nat.ble c k.bits) (fitB k (.z c :: l)) none) = some m from h)
    obtain ⟨h3, h4⟩ := selB_someB h2
    rw [ble_iff] at h3
    show shlZ k (a.den ρ) (b.den ρ) = _
    rw [ha, numE_ok ρ h1]
    show wrapZ k (Int.ofNat (Nat.mul (bv ρ l) (Nat.pow 2 (min c k.bits)))) = _
    rw [wrapZ_eq, ← fitB_ok ρ h4, zv, Nat.min_eq_left h3, Nat.mul_comm]; rfl
  case shr =>
    obtain ⟨c, h1, h2⟩ := onO_some (show onO (numE b) (fun c => selB (Nat.ble c k.bits) (some (normB (dropB l c))) none) = some m from h)
    obtain ⟨h3, h4⟩ := selB_someB h2
    rw [ble_iff] at h3
    show shrZ k (a.den ρ) (b.den ρ) = _
    rw [ha, numE_ok ρ h1]
    show Int.ofNat (Nat.div (bv ρ l) (Nat.pow 2 (min c k.bits))) = _
    rw [← Option.some.inj h4, normB_val, dropB_val, Nat.min_eq_left h3]; rfl
  all_goals exact nomatch h

section top
variable {ρ} {rng : List (Int × Int)} (hr : RngR ρ rng)
include hr

theorem atomB_ok {e : E} {l : List Bt} (h : atomB rng e = some l) : e.den ρ = ((bv ρ l : Nat) : Int) := by
  have h : (Option.rec none (fun r => selB (leZ 0 r.1) (selB (eqZ r.1 r.2) (some (numB (Int.toNat r.1))) (some [.f e 0 (Nat.succ (Nat.log2 (Int.toNat r.2)))])) none) (e.iv rng) : Option (List Bt)) = some l := h
  cases hi : e.iv rng with
  | none => rw [hi] at h; exact nomatch h
  | some r =>
    rw [hi] at h
    obtain ⟨h1, h2⟩ := selB_someB h
    rw [leZ_iff] at h1
    have h3 := E.iv_in hr (show e.iv rng = some (r.1, r.2) from hi)
    cases he : eqZ r.1 r.2 with
    | true =>
      rw [he] at h2
      rw [eqZ_iff] at he
      rw [← Option.some.inj (show some (numB (Int.toNat r.1)) = some l from h2), numB_val]
      omega
    | false =>
    rw [he] at h2
    rw [← Option.some.inj (show some [Bt.f e 0 (Nat.succ (Nat.log2 (Int.toNat r.2)))] = some l from h2)]
    show e.den ρ = (((e.den ρ).toNat / 2 ^ 0 % 2 ^ (Nat.succ (Nat.log2 r.2.toNat)) + 2 ^ (Nat.succ (Nat.log2 r.2.toNat)) * 0 : Nat) : Int)
    have h4 : (e.den ρ).toNat < 2 ^ (Nat.succ (Nat.log2 r.2.toNat)) := Nat.lt_of_le_of_lt (by omega) Nat.lt_log2_self
    rw [Nat.pow_zero, Nat.div_one, Nat.mod_eq_of_lt h4]
    omega

theorem orAtom_ok {e : E} {x : Option (List Bt)} {l : List Bt} (hx : ∀ l, x = some l → e.den ρ = ((bv ρ l : Nat) : Int)) (h : orAtom rng e x = some l) : e.den ρ = ((bv ρ l : Nat) : Int) := by
  cases x with
  | none => exact atomB_ok hr h
  | some m => exact hx l h

theorem toB_ok : ∀ {e : E} {l : List Bt}, toB rng e = some l → e.den ρ = ((bv ρ l : Nat) : Int)
  | .n z, l, h => by
    obtain ⟨m, h1, h2⟩ := onO_some (show onO (numZ z) (fun m => some (numB m)) = some l from h)
    rw [← Option.some.inj h2, numB_val]
    cases z with
    | negSucc m => exact nomatch h1
    | ofNat m' => rw [← Option.some.inj (show some m' = some m from h1)]; rfl
  | .bin op k a b, l, h => orAtom_ok hr (fun m hm => by
      obtain ⟨x, h1, h2⟩ := onO_some hm
      obtain ⟨y, h3, h4⟩ := onO_some h2
      exact binB_ok ρ (toB_ok h1) (toB_ok h3) h4) (show orAtom rng (.bin op k a b) (onO (toB rng a) fun l => onO (toB rng b) fun r => binB op k l r a b) = some l from h)
  | .cv k a, l, h => orAtom_ok hr (fun m hm => by
      obtain ⟨x, h1, h2⟩ := fitO_ok ρ hm
      show k.wrap (a.den ρ) = _
      rw [toB_ok h1, h2]) (show orAtom rng (.cv k a) (fitO k (toB rng a)) = some l from h)
  | .x i, _, h => atomB_ok hr (show atomB rng (.x i) = some _ from h)
  | .rd a r lo hi e, _, h => atomB_ok hr (show atomB rng (.rd a r lo hi e) = some _ from h)
  | .tab t lo hi e, _, h => atomB_ok hr (show atomB rng (.tab t lo hi e) = some _ from h)

omit hr in
theorem mkBin_den' (ρ : Nat → Int) (op : BinOp) (k : IntKind) (a b : E) : (mkBin op k a b).den ρ = binZ op k (a.den ρ) (b.den ρ) := by
  unfold mkBin
  cases a <;> try rfl
  cases b <;> rfl

omit hr in
theorem u64_in {z : Int} (h0 : 0 ≤ z) (h1 : z < 18446744073709551616) : IntKind.u64.wrap z = z :=
  wrap_in .u64 z h0 (by show z ≤ 18446744073709551616 - 1; omega)

theorem fieldE_ok {a e : E} {o w : Nat} (h : fieldE rng a o w = some e) : e.den ρ = (((a.den ρ).toNat / 2 ^ o % 2 ^ w : Nat) : Int) := by
  have h : (Option.rec none (fun r => selB (andB (leZ 0 r.1) (ltZ r.2 18446744073709551616)) (some (remIf o w (Int.toNat r.2) (quoIf a o))) none) (a.iv rng) : Option E) = some e := h
  cases hi : a.iv rng with
  | none => rw [hi] at h; exact nomatch h
  | some r =>
    rw [hi] at h
    obtain ⟨h1, h2⟩ := selB_someB h
    rw [andB_eq, Bool.and_eq_true, leZ_iff, ltZ_iff] at h1
    have h3 := E.iv_in hr (show a.iv rng = some (r.1, r.2) from hi)
    obtain ⟨x, hx⟩ := Int.eq_ofNat_of_zero_le (show 0 ≤ a.den ρ by omega)
    have hq : (quoIf a o).den ρ = ((x / 2 ^ o : Nat) : Int) := by
      unfold quoIf
      cases ho : Nat.beq o 0 with
      | true => rw [beq_iff] at ho; subst ho; rw [Nat.pow_zero, Nat.div_one]; exact hx
      | false =>
        show (mkBin .quo .u64 a (.n (.ofNat (Nat.pow 2 o)))).den ρ = _
        rw [mkBin_den' ρ]
        show wrapZ .u64 ((a.den ρ).tdiv ((2 ^ o : Nat) : Int)) = _
        rw [wrapZ_eq, hx, ← Int.ofNat_tdiv]
        have : x / 2 ^ o ≤ x := Nat.div_le_self _ _
        generalize x / 2 ^ o = q at *
        exact u64_in (by omega) (by omega)
    rw [← Option.some.inj h2, hx]
    show (remIf o w r.2.toNat (quoIf a o)).den ρ = ((x / 2 ^ o % 2 ^ w : Nat) : Int)
    unfold remIf
    cases hl : Nat.blt (Nat.div r.2.toNat (Nat.pow 2 o)) (Nat.pow 2 w) with
    | true =>
      rw [blt_iff] at hl
      show (quoIf a o).den ρ = _
      have hl : r.2.toNat / 2 ^ o < 2 ^ w := hl
      have hle : x / 2 ^ o ≤ r.2.toNat / 2 ^ o := Nat.div_le_div_right (by omega)
      rw [hq, Nat.mod_eq_of_lt (Nat.lt_of_le_of_lt hle hl)]
    | false =>
      show (mkBin .rem .u64 (quoIf a o) (.n (.ofNat (Nat.pow 2 w)))).den ρ = _
      rw [mkBin_den' ρ]
      show ((quoIf a o).den ρ).tmod ((2 ^ w : Nat) : Int) = _
      rw [hq, ← Int.ofNat_tmod]

theorem pieceE_ok {p : Bt} {e : E} (h : pieceE rng p = some e) : e.den ρ = ((p.val ρ : Nat) : Int) := by
  cases p with
  | z w => rw [← Option.some.inj (show some (E.n 0) = some e from h)]; rfl
  | o w => rw [← Option.some.inj (show some (E.n (.ofNat (Nat.sub (Nat.pow 2 w) 1))) = some e from h)]; rfl
  | f a o w => exact fieldE_ok hr h

omit hr in
theorem mulIf_ok {e : E} {off v : Nat} (he : e.den ρ = (v : Int)) (h : v * 2 ^ off < 2 ^ 64) : (mulIf e off).den ρ = ((v * 2 ^ off : Nat) : Int) := by
  unfold mulIf
  cases ho : Nat.beq off 0 with
  | true => rw [beq_iff] at ho; subst ho; rw [Nat.pow_zero, Nat.mul_one]; exact he
  | false =>
    show (mkBin .mul .u64 e (.n (.ofNat (Nat.pow 2 off)))).den ρ = _
    rw [mkBin_den' ρ]
    show wrapZ .u64 (e.den ρ * ((2 ^ off : Nat) : Int)) = _
    rw [wrapZ_eq, he]
    have : (v : Int) * ((2 ^ off : Nat) : Int) = ((v * 2 ^ off : Nat) : Int) := by push_cast; rfl
    rw [this]
    exact u64_in (by omega) (by have : (2 : Nat) ^ 64 = 18446744073709551616 := by decide
                                omega)

omit hr in
theorem isN0_ok {e : E} (h : isN0 e = true) : e.den ρ = 0 := by
  rcases onN_cases' (v := true) (show onN e (fun z => eqZ z 0) false = true from h) with ⟨z, rfl, h2⟩ | h2
  · rw [eqZ_iff] at h2; exact h2
  · exact nomatch h2

omit hr in
theorem addIf_ok {e s : E} {x y : Nat} (he : e.den ρ = (x : Int)) (hs : s.den ρ = (y : Int)) (h : x + y < 2 ^ 64) : (addIf e s).den ρ = ((x + y : Nat) : Int) := by
  unfold addIf
  cases h1 : isN0 s with
  | true => have := isN0_ok (ρ := ρ) h1; show e.den ρ = _; omega
  | false =>
    cases h2 : isN0 e with
    | true => have := isN0_ok (ρ := ρ) h2; show s.den ρ = _; omega
    | false =>
      show (mkBin .add .u64 e s).den ρ = _
      rw [mkBin_den' ρ]
      show wrapZ .u64 (e.den ρ + s.den ρ) = _
      rw [wrapZ_eq, he, hs]
      have : (x : Int) + (y : Int) = ((x + y : Nat) : Int) := by push_cast; rfl
      rw [this]
      exact u64_in (by omega) (by have : (2 : Nat) ^ 64 = 18446744073709551616 := by decide
                                  omega)

theorem sumB_ok : ∀ {l : List Bt} {off : Nat} {e : E}, off + widB l ≤ 64 → sumB rng l off = some e → e.den ρ = ((bv ρ l * 2 ^ off : Nat) : Int)
  | [], off, e, _, h => by
    rw [← Option.some.inj (show some (E.n 0) = some e from h)]
    show (0 : Int) = ((0 * 2 ^ off : Nat) : Int)
    rw [Nat.zero_mul]; rfl
  | p :: l, off, e, hw, h => by
    obtain ⟨x, h1, h2⟩ := onO_some (show onO (pieceE rng p) (fun e => onO (sumB rng l (off + p.w)) fun s => some (addIf (mulIf e off) s)) = some e from h)
    obtain ⟨s, h3, h4⟩ := onO_some h2
    have hw : off + (p.w + widB l) ≤ 64 := hw
    have h5 := pieceE_ok hr h1
    have h6 := sumB_ok (by omega) h3
    have hall : bv ρ (p :: l) * 2 ^ off < 2 ^ 64 := by
      have h7 := bv_lt ρ (p :: l)
      have h8 : widB (p :: l) = p.w + widB l := rfl
      rw [h8] at h7
      have h9 : 2 ^ (p.w + widB l) * 2 ^ off ≤ 2 ^ 64 := by rw [← Nat.pow_add]; exact pow_le' (by omega)
      exact Nat.lt_of_lt_of_le (Nat.mul_lt_mul_of_pos_right h7 (two_pos' off)) h9
    have hsplit : bv ρ (p :: l) * 2 ^ off = p.val ρ * 2 ^ off + bv ρ l * 2 ^ (off + p.w) := by
      show (p.val ρ + 2 ^ p.w * bv ρ l) * 2 ^ off = _
      rw [Nat.add_mul, Nat.pow_add, Nat.mul_comm (2 ^ p.w), Nat.mul_assoc, Nat.mul_comm (2 ^ p.w)]
    rw [hsplit] at hall ⊢
    rw [← Option.some.inj h4]
    exact addIf_ok (mulIf_ok h5 (by omega)) h6 hall

theorem canon_den (e : E) : (canon rng e).den ρ = e.den ρ := by
  show E.den ρ (Option.rec e (fun e => e) (onO (toB rng e) (fun l => selB (Nat.ble (widB l) 64) (sumB rng l 0) none)) : E) = _
  cases h : onO (toB rng e) (fun l => selB (Nat.ble (widB l) 64) (sumB rng l 0) none) with
  | none => rfl
  | some e' =>
    show e'.den ρ = _
    obtain ⟨l, h1, h2⟩ := onO_some h
    obtain ⟨h3, h4⟩ := selB_someB h2
    rw [ble_iff] at h3
    rw [sumB_ok hr (by omega) h4, toB_ok hr h1, Nat.pow_zero, Nat.mul_one]
theorem litOf_den (e : E) : (litOf rng e).den ρ = e.den ρ := by
  show E.den ρ (Option.rec e (fun r => selB (eqZ r.1 r.2) (.n r.1) e) (e.iv rng) : E) = _
  cases hi : e.iv rng with
  | none => rfl
  | some r =>
    have h3 := E.iv_in hr (show e.iv rng = some (r.1, r.2) from hi)
    cases he : eqZ r.1 r.2 with
    | true => rw [eqZ_iff] at he; show E.den ρ (selB (eqZ r.1 r.2) (.n r.1) e) = _; rw [(eqZ_iff _ _).2 he]; show r.1 = _; omega
    | false => show E.den ρ (selB (eqZ r.1 r.2) (.n r.1) e) = _; rw [he]; rfl
end top
end bits

end Go.Sy

/-
  What is proved here: the check of a region whose order is drawn: what its bits say is forced.
  Conditions: none.
-/
namespace Go.Sy

/-- the edges force operation j before operation i -/
inductive Anc (ops : Array Oper) : Nat → Nat → Prop where
  | edge {i : Nat} {o : Oper} {e : Edge} (ho : ops[i]? = some o) (he : e ∈ o.after) (hb : Region.binds .any e = true) : Anc ops i e.on
  | step {i j : Nat} {o : Oper} {e : Edge} (ho : ops[i]? = some o) (he : e ∈ o.after) (hb : Region.binds .any e = true) (h : Anc ops e.on j) : Anc ops i j

theorem Anc.trans {ops : Array Oper} {i j k : Nat} (h : Anc ops i j) (h2 : Anc ops j k) : Anc ops i k := by
  induction h with
  | edge ho he hb => exact .step ho he hb h2
  | step ho he hb _ ih => exact .step ho he hb (ih h2)

theorem bindsB_eq (e : Edge) : bindsB e = Region.binds .any e := by
  obtain ⟨on, g⟩ := e
  cases g <;> rfl

theorem forceN_eq {α : Type} (n : Nat) (k : Nat → α) : forceN n k = k n := by cases n <;> rfl

theorem bitB_iff {A i : Nat} (h : bitB A i = true) : A.testBit i = true := by
  unfold bitB at h
  rw [beq_iff] at h
  have h : (A >>> i) &&& 1 = 1 := h
  unfold Nat.testBit
  rw [Nat.and_comm, h]
  rfl

theorem subN_bit {e A : Nat} (h : subN e A = true) {j : Nat} (hj : e.testBit j = true) : A.testBit j = true := by
  unfold subN at h
  rw [beq_iff] at h
  have h : e &&& A = e := h
  rw [← h, Nat.testBit_and] at hj
  simp at hj
  exact hj.2

section ops
variable {ops : Array Oper}

theorem ancOf_ok {look : Nat → Nat} (hl : ∀ j b, (look j).testBit b = true → Anc ops j b) {i : Nat} {o : Oper} (ho : ops[i]? = some o) : ∀ (l : List Edge), (∀ e ∈ l, e ∈ o.after) → ∀ b, (ancOf l look).testBit b = true → Anc ops i b
  | [], _, b, h => by
    have h : (0 : Nat).testBit b = true := h
    simp at h
  | e :: l, hs, b, h => by
    have h : (selB (bindsB e) (Nat.lor (Nat.lor (Nat.pow 2 e.on) (look e.on)) (ancOf l look)) (ancOf l look)).testBit b = true := h
    have hs' : ∀ x ∈ l, x ∈ o.after := fun x hx => hs x (.tail _ hx)
    cases hb : bindsB e with
    | false => rw [hb] at h; exact ancOf_ok hl ho l hs' b h
    | true =>
      rw [hb] at h
      have h : ((2 ^ e.on ||| look e.on) ||| ancOf l look).testBit b = true := h
      rw [bindsB_eq] at hb
      rw [Nat.testBit_or, Nat.testBit_or, Bool.or_eq_true, Bool.or_eq_true] at h
      rcases h with (h | h) | h
      · rw [Nat.testBit_two_pow] at h
        simp at h
        subst h
        exact .edge ho (hs e (.head _)) hb
      · exact .step ho (hs e (.head _)) hb (hl _ _ h)
      · exact ancOf_ok hl ho l hs' b h

theorem putN_ok {look : Nat → Nat} (hl : ∀ j b, (look j).testBit b = true → Anc ops j b) {i A : Nat} (hA : ∀ b, A.testBit b = true → Anc ops i b) : ∀ j b, (putN look i A j).testBit b = true → Anc ops j b := by
  intro j b h
  have h1 : (Bool.rec (look j) A (Nat.beq j i) : Nat).testBit b = true := h
  clear h
  cases hj : Nat.beq j i with
  | false => rw [hj] at h1; exact hl j b h1
  | true => rw [hj] at h1; rw [beq_iff] at hj; subst hj; exact hA b h1

/-! ### the check of the slots -/

/-- what the check says -/
structure RegF (ops : Array Oper) : Prop where
  edges : ∀ (i : Nat) (o : Oper) (e : Edge), ops[i]? = some o → e ∈ o.after → Region.binds .any e = true → e.on < i
  apart : ∀ (i j : Nat) (o o' : Oper), ops[i]? = some o → ops[j]? = some o' → j < i → Anc ops i j ∨ slotsApart o.dst (looks ops o) o'.dst (looks ops o') = true

theorem regL_ok : ∀ (l : List Oper) (i : Nat) (look : Nat → Nat) (seen : List (Nat × List Nat × Option Nat)), ops.toList.drop i = l → (∀ j b, (look j).testBit b = true → Anc ops j b) →
    (∀ j o, j < i → ops[j]? = some o → (j, looks ops o, o.dst) ∈ seen) → regL ops l i look seen = true →
    (∀ (k : Nat) (o : Oper) (e : Edge), i ≤ k → ops[k]? = some o → e ∈ o.after → Region.binds .any e = true → e.on < k) ∧
    (∀ (k j : Nat) (o o' : Oper), i ≤ k → ops[k]? = some o → ops[j]? = some o' → j < k → Anc ops k j ∨ slotsApart o.dst (looks ops o) o'.dst (looks ops o') = true)
  | [], i, look, seen, hd, _, _, _ => by
    have hs : ops.size ≤ i := by
      have := congrArg List.length hd
      simp at this; omega
    have hn : ∀ k, i ≤ k → ops[k]? = none := fun k hk => Array.getElem?_eq_none (by omega)
    exact ⟨fun k o e hk ho => by rw [hn k hk] at ho; simp at ho, fun k j o o' hk ho => by rw [hn k hk] at ho; simp at ho⟩
  | o :: l, i, look, seen, hd, hl, hs, h => by
    rw [regL, forceN_eq, Bool.and_eq_true, Bool.and_eq_true] at h
    obtain ⟨⟨h1, h2⟩, h3⟩ := h
    have ho : ops[i]? = some o := by
      have : (ops.toList.drop i)[0]? = some o := by rw [hd]; rfl
      simpa using this
    have hd' : ops.toList.drop (i + 1) = l := by
      rw [← List.drop_drop, hd]; rfl
    have hA : ∀ b, (ancOf o.after.toList look).testBit b = true → Anc ops i b := ancOf_ok hl ho _ (fun e he => by simpa using he)
    obtain ⟨r1, r2⟩ := regL_ok l (i + 1) _ _ hd' (putN_ok hl hA) (fun j o' hj hoj => by
      by_cases hji : j = i
      · subst hji; rw [ho] at hoj; simp at hoj; subst hoj; exact .head _
      · exact .tail _ (hs j o' (by omega) hoj)) h3
    refine ⟨fun k o' e hk hok he hb => ?_, fun k j o1 o2 hk h4 h5 hj => ?_⟩
    · by_cases hki : k = i
      · subst hki; rw [ho] at hok; simp at hok; subst hok
        have := List.all_eq_true.1 h1 e (by simpa using he)
        rw [bindsB_eq, hb] at this
        simp at this
        exact this
      · exact r1 k o' e (by omega) hok he hb
    · by_cases hki : k = i
      · subst hki; rw [ho] at h4; simp at h4; subst h4
        have := List.all_eq_true.1 h2 _ (hs j o2 hj h5)
        rw [Bool.or_eq_true] at this
        rcases this with h6 | h6
        · exact .inl (hA j (bitB_iff h6))
        · exact .inr h6
      · exact r2 k j o1 o2 (by omega) h4 h5 hj

theorem regF_of (h : regOK ops = true) : RegF ops := by
  obtain ⟨h1, h2⟩ := regL_ok ops.toList 0 (fun _ => 0) [] (by simp) (fun j b hb => by simp at hb) (fun j o hj => by omega) h
  exact ⟨fun i o e => h1 i o e (Nat.zero_le _), fun i j o o' => h2 i j o o' (Nat.zero_le _)⟩
end ops

/-- the check of all regions of a code -/
noncomputable def codeRegs : Code → Bool
  | .region _ ops d => !d || regOK ops
  | .seq a b => codeRegs a && codeRegs b
  | .cond _ a b => codeRegs a && codeRegs b
  | .block _ a => codeRegs a
  | .loop a => codeRegs a
  | .scope a => codeRegs a
  | .rangeFunc _ _ a b => codeRegs a && codeRegs b
  | _ => true

end Go.Sy

/-
  What is proved here: the laws of the evaluator's trie and trees; the relation between its values and memory and those of the model.
  Conditions: none.
-/
namespace Go.Sy

/-! ### the trie -/

section trie
variable {α : Type}

def pick4 (d : Nat) (t0 t1 t2 t3 : Tr α) : Tr α := if d = 0 then t0 else if d = 1 then t1 else if d = 2 then t2 else t3

theorem lt4 (k : Nat) : k % 4 = 0 ∨ k % 4 = 1 ∨ k % 4 = 2 ∨ k % 4 = 3 := by omega

theorem Tr.get_nil (j : Nat) : (Tr.nil : Tr α).get j = none := rfl
theorem Tr.get_zero (v : Option α) (t0 t1 t2 t3 : Tr α) : (Tr.node v t0 t1 t2 t3).get 0 = v := rfl

theorem Tr.get_succ (v : Option α) (t0 t1 t2 t3 : Tr α) (j : Nat) : (Tr.node v t0 t1 t2 t3).get (j + 1) = (pick4 (j % 4) t0 t1 t2 t3).get (j / 4) := by
  show (Bool.rec (Bool.rec (t3.get (Nat.div j 4)) (t2.get (Nat.div j 4)) (Nat.beq (Nat.mod j 4) 2)) (Bool.rec (t1.get (Nat.div j 4)) (t0.get (Nat.div j 4)) (Nat.beq (Nat.mod j 4) 0)) (Nat.blt (Nat.mod j 4) 2) : Option α) = _
  show (Bool.rec (Bool.rec (t3.get (j / 4)) (t2.get (j / 4)) (Nat.beq (j % 4) 2)) (Bool.rec (t1.get (j / 4)) (t0.get (j / 4)) (Nat.beq (j % 4) 0)) (Nat.blt (j % 4) 2) : Option α) = _
  rcases lt4 j with h | h | h | h <;> rw [h] <;> rfl

/-- the same trie, open at its head -/
theorem Tr.open_get (t : Tr α) (j : Nat) : t.open.get j = t.get j := by
  cases t with
  | nil =>
    show (Tr.node none .nil .nil .nil .nil : Tr α).get j = none
    cases j with
    | zero => rfl
    | succ j => rw [Tr.get_succ]; rcases lt4 j with h | h | h | h <;> rw [h] <;> rfl
  | node => rfl

theorem Tr.setF_get : ∀ (f : Nat) (v : Option α) (t : Tr α) (k j : Nat), k < f → (Tr.setF f v t k).get j = if j = k then v else t.get j
  | 0, _, _, _, _, h => absurd h (by omega)
  | f + 1, v, t, k, j, h => by
    rw [← Tr.open_get t]
    have ho : ∃ u t0 t1 t2 t3, t.open = .node u t0 t1 t2 t3 := by cases t <;> exact ⟨_, _, _, _, _, rfl⟩
    obtain ⟨u, t0, t1, t2, t3, ho⟩ := ho
    have hs : Tr.setF (f + 1) v t k = Tr.rec (motive := fun _ => Tr α) .nil
      (fun u t0 t1 t2 t3 _ _ _ _ => Nat.rec (.node v t0 t1 t2 t3) (fun k _ => Bool.rec
        (Bool.rec (.node u t0 t1 t2 (Tr.setF f v t3 (Nat.div k 4))) (.node u t0 t1 (Tr.setF f v t2 (Nat.div k 4)) t3) (Nat.beq (Nat.mod k 4) 2))
        (Bool.rec (.node u t0 (Tr.setF f v t1 (Nat.div k 4)) t2 t3) (.node u (Tr.setF f v t0 (Nat.div k 4)) t1 t2 t3) (Nat.beq (Nat.mod k 4) 0)) (Nat.blt (Nat.mod k 4) 2)) k)
      t.open := rfl
    rw [hs, ho]
    clear hs ho
    cases k with
    | zero =>
      show (Tr.node v t0 t1 t2 t3).get j = _
      cases j with
      | zero => simp [Tr.get_zero]
      | succ j => simp [Tr.get_succ]
    | succ k =>
      show (Bool.rec
        (Bool.rec (.node u t0 t1 t2 (Tr.setF f v t3 (k / 4))) (.node u t0 t1 (Tr.setF f v t2 (k / 4)) t3) (Nat.beq (k % 4) 2))
        (Bool.rec (.node u t0 (Tr.setF f v t1 (k / 4)) t2 t3) (.node u (Tr.setF f v t0 (k / 4)) t1 t2 t3) (Nat.beq (k % 4) 0)) (Nat.blt (k % 4) 2) : Tr α).get j = _
      have hk : k / 4 < f := by omega
      cases j with
      | zero =>
        rw [Tr.get_zero, if_neg (by omega)]
        rcases lt4 k with h | h | h | h <;> rw [h] <;> rfl
      | succ j =>
        rw [Tr.get_succ]
        have hjk : (j + 1 = k + 1) ↔ (j % 4 = k % 4 ∧ j / 4 = k / 4) := by omega
        rcases lt4 k with h | h | h | h <;> rw [h]
        · show (Tr.node u (Tr.setF f v t0 (k / 4)) t1 t2 t3).get (j + 1) = _
          rw [Tr.get_succ]
          rcases lt4 j with h' | h' | h' | h' <;> rw [h']
          · show (Tr.setF f v t0 (k / 4)).get (j / 4) = if j + 1 = k + 1 then v else t0.get (j / 4)
            rw [Tr.setF_get f v t0 (k / 4) (j / 4) hk]; by_cases e : j / 4 = k / 4 <;> simp [e, show (j = k) = (j % 4 = k % 4 ∧ j / 4 = k / 4) from by rw [eq_iff_iff]; omega, h, h']
          all_goals (rw [if_neg (by omega)]; rfl)
        · show (Tr.node u t0 (Tr.setF f v t1 (k / 4)) t2 t3).get (j + 1) = _
          rw [Tr.get_succ]
          rcases lt4 j with h' | h' | h' | h' <;> rw [h']
          rotate_left
          · show (Tr.setF f v t1 (k / 4)).get (j / 4) = if j + 1 = k + 1 then v else t1.get (j / 4)
            rw [Tr.setF_get f v t1 (k / 4) (j / 4) hk]; by_cases e : j / 4 = k / 4 <;> simp [e, show (j = k) = (j % 4 = k % 4 ∧ j / 4 = k / 4) from by rw [eq_iff_iff]; omega, h, h']
          all_goals (rw [if_neg (by omega)]; rfl)
        · show (Tr.node u t0 t1 (Tr.setF f v t2 (k / 4)) t3).get (j + 1) = _
          rw [Tr.get_succ]
          rcases lt4 j with h' | h' | h' | h' <;> rw [h']
          rotate_left 2
          · show (Tr.setF f v t2 (k / 4)).get (j / 4) = if j + 1 = k + 1 then v else t2.get (j / 4)
            rw [Tr.setF_get f v t2 (k / 4) (j / 4) hk]; by_cases e : j / 4 = k / 4 <;> simp [e, show (j = k) = (j % 4 = k % 4 ∧ j / 4 = k / 4) from by rw [eq_iff_iff]; omega, h, h']
          all_goals (rw [if_neg (by omega)]; rfl)
        · show (Tr.node u t0 t1 t2 (Tr.setF f v t3 (k / 4))).get (j + 1) = _
          rw [Tr.get_succ]
          rcases lt4 j with h' | h' | h' | h' <;> rw [h']
          rotate_left 3
          · show (Tr.setF f v t3 (k / 4)).get (j / 4) = if j + 1 = k + 1 then v else t3.get (j / 4)
            rw [Tr.setF_get f v t3 (k / 4) (j / 4) hk]; by_cases e : j / 4 = k / 4 <;> simp [e, show (j = k) = (j % 4 = k % 4 ∧ j / 4 = k / 4) from by rw [eq_iff_iff]; omega, h, h']
          all_goals (rw [if_neg (by omega)]; rfl)

theorem Tr.get_set (t : Tr α) (k j : Nat) (v : α) : (t.set k v).get j = if j = k then some v else t.get j := Tr.setF_get _ _ t k j (Nat.lt_succ_self k)
theorem Tr.get_del (t : Tr α) (k j : Nat) : (t.del k).get j = if j = k then none else t.get j := Tr.setF_get _ _ t k j (Nat.lt_succ_self k)
end trie

/-! ### trees of outcomes, at one valuation -/

noncomputable def T.out {α : Type} (ρ : Nat → Int) : T α → Option α
  | .ret a => some a
  | .br c x y => if c.den ρ then x.out ρ else y.out ρ
  | .fail _ => none

theorem T.out_bnd {α β : Type} (ρ : Nat → Int) (f : α → Mem → Pc → T β) : ∀ (t : T (Rs α)), (t.bnd f).out ρ = (t.out ρ).bind fun a => (f a.v a.m a.p).out ρ
  | .ret a => by cases a; rfl
  | .br c x y => by
    show (T.br c (x.bnd f) (y.bnd f)).out ρ = _
    simp only [T.out, T.out_bnd ρ f x, T.out_bnd ρ f y]
    split <;> rfl
  | .fail _ => rfl

theorem T.out_bndp {α β : Type} (ρ : Nat → Int) (f : α → Pc → T β) : ∀ (t : T (Rp α)), (t.bndp f).out ρ = (t.out ρ).bind fun a => (f a.v a.p).out ρ
  | .ret a => by cases a; rfl
  | .br c x y => by
    show (T.br c (x.bndp f) (y.bndp f)).out ρ = _
    simp only [T.out, T.out_bndp ρ f x, T.out_bndp ρ f y]
    split <;> rfl
  | .fail _ => rfl

/-- 'x' reads, and gives 'v', the path then being 'q' -/
def R.gives {α : Type} (ρ : Nat → Int) (x : R α) (m : Mem) (p : Pc) (v : α) (q : Pc) : Prop := (x m p).out ρ = some ⟨v, q⟩
/-- 'x' gives 'v', the memory then being 'm'', the path 'q' -/
def M.gives {α : Type} (ρ : Nat → Int) (x : M α) (m : Mem) (p : Pc) (v : α) (m' : Mem) (q : Pc) : Prop := (x m p).out ρ = some ⟨v, m', q⟩

section gives
variable {α β : Type} {ρ : Nat → Int} {m m' : Mem} {p q : Pc}

theorem R.gives_pure {a v : α} (h : (R.pure a).gives ρ m p v q) : v = a ∧ q = p := by
  simp [R.gives, R.pure, T.out] at h; exact ⟨h.1.symm, h.2.symm⟩

theorem R.gives_fail {s : String} {v : α} (h : (R.fail s : R α).gives ρ m p v q) : False := by
  simp [R.gives, R.fail, T.out] at h

theorem R.gives_bnd {x : R α} {f : α → R β} {v : β} (h : (x.bnd f).gives ρ m p v q) : ∃ a p', x.gives ρ m p a p' ∧ (f a).gives ρ m p' v q := by
  obtain ⟨⟨a, p'⟩, h1, h2⟩ := Option.bind_eq_some_iff.1 ((T.out_bndp ρ (fun v p => f v m p) (x m p)).symm.trans h)
  exact ⟨a, p', h1, h2⟩

theorem R.gives_opt {s : String} {x : Option α} {v : α} (h : (R.opt s x).gives ρ m p v q) : x = some v ∧ q = p := by
  cases x with
  | none => exact (R.gives_fail h).elim
  | some a => obtain ⟨rfl, rfl⟩ := R.gives_pure h; exact ⟨rfl, rfl⟩

theorem M.gives_pure {a v : α} (h : (M.pure a).gives ρ m p v m' q) : v = a ∧ m' = m ∧ q = p := by
  simp [M.gives, M.pure, T.out] at h; exact ⟨h.1.symm, h.2.1.symm, h.2.2.symm⟩

theorem M.gives_fail {s : String} {v : α} (h : (M.fail s : M α).gives ρ m p v m' q) : False := by
  simp [M.gives, M.fail, T.out] at h

theorem M.gives_bnd {x : M α} {f : α → M β} {v : β} (h : (x.bnd f).gives ρ m p v m' q) : ∃ a m1 p1, x.gives ρ m p a m1 p1 ∧ (f a).gives ρ m1 p1 v m' q := by
  obtain ⟨⟨a, m1, p1⟩, h1, h2⟩ := Option.bind_eq_some_iff.1 ((T.out_bnd ρ (fun a m p => f a m p) (x m p)).symm.trans h)
  exact ⟨a, m1, p1, h1, h2⟩

theorem R.gives_thn {x : R α} {f : α → M β} {v : β} (h : (x.thn f).gives ρ m p v m' q) : ∃ a p1, x.gives ρ m p a p1 ∧ (f a).gives ρ m p1 v m' q := by
  obtain ⟨⟨a, p1⟩, h1, h2⟩ := Option.bind_eq_some_iff.1 ((T.out_bndp ρ (fun v p => f v m p) (x m p)).symm.trans h)
  exact ⟨a, p1, h1, h2⟩

theorem R.gives_selB {c : Bool} {x y : R α} {v : α} (h : (selB c x y).gives ρ m p v q) : (c = true ∧ x.gives ρ m p v q) ∨ (c = false ∧ y.gives ρ m p v q) := by
  cases c
  · exact .inr ⟨rfl, h⟩
  · exact .inl ⟨rfl, h⟩

/-- the usual test: the other way fails -/
theorem R.gives_if {c : Bool} {x : R α} {s : String} {v : α} (h : (selB c x (R.fail s)).gives ρ m p v q) : c = true ∧ x.gives ρ m p v q := by
  rcases R.gives_selB h with h | h
  · exact h
  · exact (R.gives_fail h.2).elim

theorem M.gives_if {c : Bool} {x : M α} {s : String} {v : α} (h : (selB c x (M.fail s)).gives ρ m p v m' q) : c = true ∧ x.gives ρ m p v m' q := by
  cases c
  · exact (M.gives_fail h).elim
  · exact ⟨rfl, h⟩

theorem decR_gives (hp : PcR ρ p) {c : B} {v : Bool} (h : (decR c).gives ρ m p v q) : c.den ρ = v ∧ PcR ρ q := by
  have key : ∀ c : B, (decS c).gives ρ m p v q → c.den ρ = v ∧ PcR ρ q := by
    intro c h
    unfold R.gives decS at h
    split at h
    · rename_i u hu
      simp [T.out] at h; obtain ⟨rfl, rfl⟩ := h
      exact ⟨decE_ok hp hu, hp⟩
    · simp only [T.out] at h
      split at h
      · rename_i hd; simp at h; obtain ⟨rfl, rfl⟩ := h; exact ⟨hd, Pc.add_ok hp hd⟩
      · rename_i hd; simp at h; obtain ⟨rfl, rfl⟩ := h
        have hd' : c.den ρ = false := by simpa using hd
        exact ⟨hd', Pc.add_ok hp hd'⟩
  cases c with
  | lit u => obtain ⟨rfl, rfl⟩ := R.gives_pure (show (R.pure u).gives ρ m p v q from h); exact ⟨rfl, hp⟩
  | lt a b => exact key _ h
  | eq a b => exact key _ h
  | not a => exact key _ h

theorem litS_gives (hp : PcR ρ p) {e : E} {z : Int} (h : (litS e).gives ρ m p z q) : e.den ρ = z ∧ q = p := by
  unfold R.gives litS at h
  split at h
  · rename_i lo hi hiv
    cases hc : eqZ lo hi <;> simp [hc, T.out] at h
    obtain ⟨rfl, rfl⟩ := h
    rw [eqZ_iff] at hc
    have := ivf_ok hp e _ _ hiv
    exact ⟨by omega, rfl⟩
  · simp [T.out] at h

theorem litR_gives (hp : PcR ρ p) {e : E} {z : Int} (h : (litR e).gives ρ m p z q) : e.den ρ = z ∧ q = p := by
  cases e with
  | n x => obtain ⟨rfl, rfl⟩ := R.gives_pure (show (R.pure x).gives ρ m p z q from h); exact ⟨rfl, rfl⟩
  | x i => exact litS_gives hp h
  | bin op k a b => exact litS_gives hp h
  | cv k a => exact litS_gives hp h
  | rd a r lo hi e => exact litS_gives hp h
  | tab l lo hi e => exact litS_gives hp h

theorem natZ_gives {z : Int} {n : Nat} (h : (natZ z).gives ρ m p n q) : z = (n : Int) ∧ q = p := by
  cases z with
  | ofNat k => obtain ⟨rfl, rfl⟩ := R.gives_pure (show (R.pure k).gives ρ m p n q from h); exact ⟨rfl, rfl⟩
  | negSucc k => exact (R.gives_fail h).elim

theorem natR_gives (hp : PcR ρ p) {e : E} {n : Nat} (h : (natR e).gives ρ m p n q) : e.den ρ = (n : Int) ∧ q = p := by
  have key : ∀ e : E, ((litS e).bnd natZ).gives ρ m p n q → e.den ρ = (n : Int) ∧ q = p := by
    intro e h
    obtain ⟨z, p', h1, h2⟩ := R.gives_bnd h
    obtain ⟨rfl, rfl⟩ := litS_gives hp h1
    exact natZ_gives h2
  cases e with
  | n x => exact natZ_gives (show (natZ x).gives ρ m p n q from h)
  | x i => exact key _ h
  | bin op k a b => exact key _ h
  | cv k a => exact key _ h
  | rd a r lo hi e => exact key _ h
  | tab l lo hi e => exact key _ h
end gives

end Go.Sy

/-
  What is proved here: what it is for a value of the evaluator to stand for a value of the model; the relation between the two memories; the laws of both.
  Conditions: none.
-/
namespace Go.Sy

/-- what the abstract names stand for: a block's number and first cell; a token's number; a variable's -/
structure Cx where
  β : Nat → Nat × Nat
  γ : Nat → Nat
  ρ : Nat → Int
  nb : Nat
  nt : Nat
  /-- the names that stand for something; all are below 'nb' -/
  has : Nat → Prop
  lt : ∀ i, has i → i < nb

/-- 'c'' knows all that 'c' knows; of the names below k it knows no others -/
structure Cx.leN (k : Nat) (c c' : Cx) : Prop where
  ρ : c'.ρ = c.ρ
  nb : c.nb ≤ c'.nb
  nt : c.nt ≤ c'.nt
  hs : ∀ i, c.has i → c'.has i
  old : ∀ i, i < k → c'.has i → c.has i
  β : ∀ i, c.has i → c'.β i = c.β i
  γ : ∀ i, i < c.nt → c'.γ i = c.γ i

abbrev Cx.le (c c' : Cx) : Prop := Cx.leN c.nb c c'

theorem Cx.le.refl (c : Cx) : c.le c := ⟨rfl, Nat.le_refl _, Nat.le_refl _, fun _ h => h, fun _ _ h => h, fun _ _ => rfl, fun _ _ => rfl⟩
theorem Cx.le.trans {a b c : Cx} (h : a.le b) (k : b.le c) : a.le c :=
  ⟨k.ρ.trans h.ρ, Nat.le_trans h.nb k.nb, Nat.le_trans h.nt k.nt, fun i hi => k.hs i (h.hs i hi), fun i hi hc => h.old i hi (k.old i (Nat.lt_of_lt_of_le hi h.nb) hc), fun i hi => (k.β i (h.hs i hi)).trans (h.β i hi), fun i hi => (k.γ i (Nat.lt_of_lt_of_le hi h.nt)).trans (h.γ i hi)⟩

theorem Cx.leN.trans {n : Nat} {a b c : Cx} (h : a.leN n b) (k : b.leN n c) : a.leN n c :=
  ⟨k.ρ.trans h.ρ, Nat.le_trans h.nb k.nb, Nat.le_trans h.nt k.nt, fun i hi => k.hs i (h.hs i hi), fun i hi hc => h.old i hi (k.old i hi hc), fun i hi => (k.β i (h.hs i hi)).trans (h.β i hi), fun i hi => (k.γ i (Nat.lt_of_lt_of_le hi h.nt)).trans (h.γ i hi)⟩
theorem Cx.leN.weak {n k : Nat} {a b : Cx} (h : a.leN n b) (hk : k ≤ n) : a.leN k b := ⟨h.ρ, h.nb, h.nt, h.hs, fun i hi => h.old i (Nat.lt_of_lt_of_le hi hk), h.β, h.γ⟩

def Cx.ad (c : Cx) (i o : Nat) : Addr := ⟨(c.β i).1, (c.β i).2 + o, none⟩

def Cp.R (c : Cx) : Cp → Nat → Prop
  | .n k, cap => cap = k
  | .t i k, cap => i < c.nt ∧ cap + k = c.γ i
  | .u, _ => True

/-- a slice without elements at o, of that capacity -/
def Ez (c : Cx) (o cap : Nat) : Option (Nat × Nat × Nat) → Prop
  | none => cap = 0
  | some a => a.2.1 < c.nt ∧ (cap = 0 ∨ (o = a.1 ∧ cap + a.2.2 = c.γ a.2.1))

theorem Ez.mono {n0 : Nat} {c c' : Cx} (h : c.leN n0 c') {o cap : Nat} : ∀ {z : Option (Nat × Nat × Nat)}, Ez c o cap z → Ez c' o cap z
  | none, hz => hz
  | some a, hz => ⟨Nat.lt_of_lt_of_le hz.1 h.nt, hz.2.imp id fun ⟨h1, h3⟩ => ⟨h1, by rw [h.γ _ hz.1]; exact h3⟩⟩

/-- the cell 'x' of that kind is the number 'z' -/
def Lf.Is (l : Lf) (z : Int) (x : Value) : Prop :=
  match l with
  | .int k => x = .int k z ∧ kMin k ≤ z ∧ z ≤ kMax k
  | .bool => x = .bool (z == 1) ∧ 0 ≤ z ∧ z ≤ 1
  | .str => ∃ s, x = .string s

/-- terms of bytes -/
def BR (c : Cx) (l : List E) (bs : List UInt8) : Prop := l.map (E.den c.ρ) = bs.map fun b => (b.toNat : Int)

mutual
/-- the value 'v' stands for 'x' -/
def VR (c : Cx) : V → Value → Prop
  | .bool b, x => x = .bool (b.den c.ρ)
  | .int k e, x => x = .int k (e.den c.ρ) ∧ kMin k ≤ e.den c.ρ ∧ e.den c.ρ ≤ kMax k
  | .str l, x => ∃ s : ByteArray, x = .string s ∧ BR c l s.data.toList
  | .nilPtr, x => x = .pointer none
  | .ptr i o, x => c.has i ∧ x = .pointer (some (c.ad i o))
  | .nilSlice, x => x = .slice none 0 0
  | .slice i o len cp, x => c.has i ∧ ∃ cap, cp.R c cap ∧ len ≤ cap ∧ x = .slice (some (c.ad i o)) len cap
  | .nilMap, x => x = .map none
  | .map i, x => c.has i ∧ x = .map (some (c.β i).1)
  | .func fn a b, x => ∃ as bs : Array Value, x = .func fn as bs ∧ VRs c a as.toList ∧ VRs c b bs.toList
  | .nilFunc, x => x = .nilFunc
  | .iface t v, x => ∃ y, x = .iface t y ∧ VR c v y
  | .nilIface, x => x = .nilIface
  | .agg l, x => ∃ xs : Array Value, x = .agg xs ∧ VRs c l xs.toList
  | .tuple l, x => ∃ xs : Array Value, x = .tuple xs ∧ VRs c l xs.toList
  | .bad, _ => True
  | .sarr i _ len, x => c.has i ∧ ∃ n cap : Nat, len.den c.ρ = (n : Int) ∧ n ≤ 9223372036854775807 ∧ ((0 < n ∧ x = .slice (some (c.ad i 0)) n cap) ∨ (n = 0 ∧ ∃ a, x = .slice a 0 cap ∧ (a = none ↔ c.ρ (rowVar (i - 4096) 63 0) = 1)))
  | .eslice i z, x => c.has i ∧ ∃ o cap : Nat, x = .slice (some (c.ad i o)) 0 cap ∧ Ez c o cap z
  | .yld i, x => c.has i ∧ x = .func (.yield (c.β i).1) #[] #[]
  | .sptr i sz e f, x => c.has i ∧ ∃ j : Nat, e.den c.ρ = (j : Int) ∧ x = .pointer (some (c.ad i (j * sz + f)))
def VRs (c : Cx) : List V → List Value → Prop
  | [], xs => xs = []
  | v :: l, xs => ∃ x ys, xs = x :: ys ∧ VR c v x ∧ VRs c l ys
end

theorem Cp.R.mono {n0 : Nat} {c c' : Cx} (h : c.leN n0 c') {p : Cp} {k : Nat} (hp : p.R c k) : p.R c' k := by
  cases p with
  | n => exact hp
  | u => trivial
  | t i k => exact ⟨Nat.lt_of_lt_of_le hp.1 h.nt, by rw [h.γ i hp.1]; exact hp.2⟩

theorem BR.mono {n0 : Nat} {c c' : Cx} (h : c.leN n0 c') {l : List E} {bs : List UInt8} (hb : BR c l bs) : BR c' l bs := by
  unfold BR at *; rw [h.ρ]; exact hb

mutual
theorem VR.mono {n0 : Nat} {c c' : Cx} (h : c.leN n0 c') : ∀ {v : V} {x : Value}, VR c v x → VR c' v x
  | .bool b, x, hx => by unfold VR at *; rw [h.ρ]; exact hx
  | .int k e, x, hx => by unfold VR at *; rw [h.ρ]; exact hx
  | .str l, x, hx => by unfold VR at *; obtain ⟨s, e, hb⟩ := hx; exact ⟨s, e, hb.mono h⟩
  | .nilPtr, x, hx => by unfold VR at *; exact hx
  | .ptr i o, x, hx => by unfold VR Cx.ad at *; exact ⟨h.hs i hx.1, by rw [h.β i hx.1]; exact hx.2⟩
  | .nilSlice, x, hx => by unfold VR at *; exact hx
  | .slice i o len cp, x, hx => by
    unfold VR Cx.ad at *
    obtain ⟨hi, cap, h1, h2, h3⟩ := hx
    exact ⟨h.hs i hi, cap, h1.mono h, h2, by rw [h.β i hi]; exact h3⟩
  | .nilMap, x, hx => by unfold VR at *; exact hx
  | .map i, x, hx => by unfold VR at *; exact ⟨h.hs i hx.1, by rw [h.β i hx.1]; exact hx.2⟩
  | .func fn a b, x, hx => by unfold VR at *; obtain ⟨as, bs, e, h1, h2⟩ := hx; exact ⟨as, bs, e, VRs.mono h h1, VRs.mono h h2⟩
  | .nilFunc, x, hx => by unfold VR at *; exact hx
  | .iface t v, x, hx => by unfold VR at *; obtain ⟨y, e, h1⟩ := hx; exact ⟨y, e, VR.mono h h1⟩
  | .nilIface, x, hx => by unfold VR at *; exact hx
  | .agg l, x, hx => by unfold VR at *; obtain ⟨xs, e, h1⟩ := hx; exact ⟨xs, e, VRs.mono h h1⟩
  | .tuple l, x, hx => by unfold VR at *; obtain ⟨xs, e, h1⟩ := hx; exact ⟨xs, e, VRs.mono h h1⟩
  | .bad, x, _ => by unfold VR; trivial
  | .sarr i sz len, x, hx => by
    unfold VR Cx.ad at *
    obtain ⟨hi, n, cap, h1, h2⟩ := hx
    exact ⟨h.hs i hi, n, cap, by rw [h.ρ]; exact h1, by rw [h.β i hi, h.ρ]; exact h2⟩
  | .eslice i z, x, hx => by
    unfold VR Cx.ad at *
    obtain ⟨hi, o, cap, h1, h2⟩ := hx
    exact ⟨h.hs i hi, o, cap, by rw [h.β i hi]; exact h1, h2.mono h⟩
  | .yld i, x, hx => by unfold VR at *; exact ⟨h.hs i hx.1, by rw [h.β i hx.1]; exact hx.2⟩
  | .sptr i sz e f, x, hx => by
    unfold VR Cx.ad at *
    obtain ⟨hi, j, h1, h2⟩ := hx
    exact ⟨h.hs i hi, j, by rw [h.ρ]; exact h1, by rw [h.β i hi]; exact h2⟩
theorem VRs.mono {n0 : Nat} {c c' : Cx} (h : c.leN n0 c') : ∀ {l : List V} {xs : List Value}, VRs c l xs → VRs c' l xs
  | [], xs, hx => by unfold VRs at *; exact hx
  | v :: l, xs, hx => by unfold VRs at *; obtain ⟨x, ys, e, h1, h2⟩ := hx; exact ⟨x, ys, e, VR.mono h h1, VRs.mono h h2⟩
end

section lists
variable {c : Cx}
theorem VRs.nil_iff {xs : List Value} : VRs c [] xs ↔ xs = [] := by unfold VRs; exact Iff.rfl
theorem VRs.cons_iff {v : V} {l : List V} {xs : List Value} : VRs c (v :: l) xs ↔ ∃ x ys, xs = x :: ys ∧ VR c v x ∧ VRs c l ys := by
  constructor
  · intro h; unfold VRs at h; exact h
  · intro h; unfold VRs; exact h
theorem VRs.nil : VRs c [] [] := VRs.nil_iff.2 rfl
theorem VRs.cons {v : V} {l : List V} {x : Value} {xs : List Value} (h : VR c v x) (hs : VRs c l xs) : VRs c (v :: l) (x :: xs) := VRs.cons_iff.2 ⟨x, xs, rfl, h, hs⟩

theorem VRs.length : ∀ {l : List V} {xs : List Value}, VRs c l xs → xs.length = l.length
  | [], xs, h => by rw [VRs.nil_iff] at h; subst h; rfl
  | v :: l, xs, h => by
    obtain ⟨x, ys, rfl, _, h2⟩ := VRs.cons_iff.1 h
    simp [VRs.length h2]

theorem VRs.get : ∀ {l : List V} {xs : List Value} {n : Nat} {v : V}, VRs c l xs → l[n]? = some v → ∃ x, xs[n]? = some x ∧ VR c v x
  | [], _, _, _, _, h => by simp at h
  | u :: l, xs, 0, v, h, hv => by
    obtain ⟨x, ys, rfl, h1, _⟩ := VRs.cons_iff.1 h
    simp at hv; subst hv; exact ⟨x, by simp, h1⟩
  | u :: l, xs, n + 1, v, h, hv => by
    obtain ⟨x, ys, rfl, _, h2⟩ := VRs.cons_iff.1 h
    simp at hv
    obtain ⟨y, h3, h4⟩ := VRs.get h2 hv
    exact ⟨y, by simpa using h3, h4⟩

theorem VRs.append : ∀ {l l' : List V} {xs xs' : List Value}, VRs c l xs → VRs c l' xs' → VRs c (l ++ l') (xs ++ xs')
  | [], _, xs, _, h, h' => by rw [VRs.nil_iff] at h; subst h; exact h'
  | v :: l, _, xs, _, h, h' => by
    obtain ⟨x, ys, rfl, h1, h2⟩ := VRs.cons_iff.1 h
    exact VRs.cons h1 (VRs.append h2 h')

theorem VRs.of_get : ∀ {l : List V} {xs : List Value}, xs.length = l.length → (∀ (n : Nat) (v : V), l[n]? = some v → ∃ x, xs[n]? = some x ∧ VR c v x) → VRs c l xs
  | [], xs, h, _ => by rw [VRs.nil_iff]; exact List.eq_nil_of_length_eq_zero h
  | v :: l, xs, h, hg => by
    cases xs with
    | nil => simp at h
    | cons x xs =>
      obtain ⟨y, h1, h2⟩ := hg 0 v (by simp)
      simp at h1; subst h1
      exact VRs.cons h2 (VRs.of_get (by simpa using h) fun n u hu => by simpa using hg (n + 1) u (by simpa using hu))
end lists

/-! ### one arm at a time -/

section arms
variable {c : Cx} {x : Value}
theorem VR.bool {b : B} : VR c (.bool b) x ↔ x = .bool (b.den c.ρ) := by unfold VR; exact Iff.rfl
theorem VR.int {k : IntKind} {e : E} : VR c (.int k e) x ↔ x = .int k (e.den c.ρ) ∧ kMin k ≤ e.den c.ρ ∧ e.den c.ρ ≤ kMax k := by unfold VR; exact Iff.rfl
theorem VR.str {l : List E} : VR c (.str l) x ↔ ∃ s : ByteArray, x = .string s ∧ BR c l s.data.toList := by unfold VR; exact Iff.rfl
theorem VR.nilPtr : VR c .nilPtr x ↔ x = .pointer none := by unfold VR; exact Iff.rfl
theorem VR.ptr {i o : Nat} : VR c (.ptr i o) x ↔ c.has i ∧ x = .pointer (some (c.ad i o)) := by unfold VR; exact Iff.rfl
theorem VR.nilSlice : VR c .nilSlice x ↔ x = .slice none 0 0 := by unfold VR; exact Iff.rfl
theorem VR.slice {i o len : Nat} {cp : Cp} : VR c (.slice i o len cp) x ↔ c.has i ∧ ∃ cap, cp.R c cap ∧ len ≤ cap ∧ x = .slice (some (c.ad i o)) len cap := by unfold VR; exact Iff.rfl
theorem VR.nilMap : VR c .nilMap x ↔ x = .map none := by unfold VR; exact Iff.rfl
theorem VR.map {i : Nat} : VR c (.map i) x ↔ c.has i ∧ x = .map (some (c.β i).1) := by unfold VR; exact Iff.rfl
theorem VR.func {fn : Fn} {a b : List V} : VR c (.func fn a b) x ↔ ∃ as bs : Array Value, x = .func fn as bs ∧ VRs c a as.toList ∧ VRs c b bs.toList := by unfold VR; exact Iff.rfl
theorem VR.nilFunc : VR c .nilFunc x ↔ x = .nilFunc := by unfold VR; exact Iff.rfl
theorem VR.iface {t : TypeId} {v : V} : VR c (.iface t v) x ↔ ∃ y, x = .iface t y ∧ VR c v y := by
  constructor
  · intro h; unfold VR at h; exact h
  · intro h; unfold VR; exact h
theorem VR.nilIface : VR c .nilIface x ↔ x = .nilIface := by unfold VR; exact Iff.rfl
theorem VR.agg {l : List V} : VR c (.agg l) x ↔ ∃ xs : Array Value, x = .agg xs ∧ VRs c l xs.toList := by
  constructor
  · intro h; unfold VR at h; exact h
  · intro h; unfold VR; exact h
theorem VR.tuple {l : List V} : VR c (.tuple l) x ↔ ∃ xs : Array Value, x = .tuple xs ∧ VRs c l xs.toList := by
  constructor
  · intro h; unfold VR at h; exact h
  · intro h; unfold VR; exact h
theorem VR.bad : VR c .bad x := by unfold VR; trivial
theorem VR.eslice {i : Nat} {z : Option (Nat × Nat × Nat)} : VR c (.eslice i z) x ↔ c.has i ∧ ∃ o cap : Nat, x = .slice (some (c.ad i o)) 0 cap ∧ Ez c o cap z := by unfold VR; exact Iff.rfl
theorem VR.sarr {i sz : Nat} {len : E} : VR c (.sarr i sz len) x ↔ c.has i ∧ ∃ n cap : Nat, len.den c.ρ = (n : Int) ∧ n ≤ 9223372036854775807 ∧ ((0 < n ∧ x = .slice (some (c.ad i 0)) n cap) ∨ (n = 0 ∧ ∃ a, x = .slice a 0 cap ∧ (a = none ↔ c.ρ (rowVar (i - 4096) 63 0) = 1))) := by unfold VR; exact Iff.rfl
theorem VR.sptr {i sz : Nat} {e : E} {f : Nat} : VR c (.sptr i sz e f) x ↔ c.has i ∧ ∃ j : Nat, e.den c.ρ = (j : Int) ∧ x = .pointer (some (c.ad i (j * sz + f))) := by unfold VR; exact Iff.rfl
theorem VR.yld {i : Nat} : VR c (.yld i) x ↔ c.has i ∧ x = .func (.yield (c.β i).1) #[] #[] := by unfold VR; exact Iff.rfl
theorem VR.undef : VR c undefV undef := VR.tuple.2 ⟨#[], rfl, VRs.nil⟩
theorem VR.lit {v : Bool} : VR c (.bool (.lit v)) (.bool v) := VR.bool.2 rfl
end arms

/-! ### the elimination of values -/

section elim
variable {α : Type}
theorem onInt_cases (v : V) (f : IntKind → E → α) (d : α) : (∃ k e, v = .int k e ∧ onInt v f d = f k e) ∨ onInt v f d = d := by
  cases v <;> first | exact .inl ⟨_, _, rfl, rfl⟩ | exact .inr rfl
theorem onBool_cases (v : V) (f : B → α) (d : α) : (∃ b, v = .bool b ∧ onBool v f d = f b) ∨ onBool v f d = d := by
  cases v <;> first | exact .inl ⟨_, rfl, rfl⟩ | exact .inr rfl
theorem onStr_cases (v : V) (f : List E → α) (d : α) : (∃ l, v = .str l ∧ onStr v f d = f l) ∨ onStr v f d = d := by
  cases v <;> first | exact .inl ⟨_, rfl, rfl⟩ | exact .inr rfl
theorem onPtr_cases (v : V) (f : Nat → Nat → α) (d : α) : (∃ i o, v = .ptr i o ∧ onPtr v f d = f i o) ∨ onPtr v f d = d := by
  cases v <;> first | exact .inl ⟨_, _, rfl, rfl⟩ | exact .inr rfl
theorem onAgg_cases (v : V) (f : List V → α) (d : α) : (∃ l, v = .agg l ∧ onAgg v f d = f l) ∨ onAgg v f d = d := by
  cases v <;> first | exact .inl ⟨_, rfl, rfl⟩ | exact .inr rfl
theorem onTup_cases (v : V) (f : List V → α) (d : α) : (∃ l, v = .tuple l ∧ onTup v f d = f l) ∨ onTup v f d = d := by
  cases v <;> first | exact .inl ⟨_, rfl, rfl⟩ | exact .inr rfl
theorem onMap_cases (v : V) (f : Nat → α) (d : α) : (∃ i, v = .map i ∧ onMap v f d = f i) ∨ onMap v f d = d := by
  cases v <;> first | exact .inl ⟨_, rfl, rfl⟩ | exact .inr rfl
theorem onIface_cases (v : V) (f : TypeId → V → α) (d : α) : (∃ t x, v = .iface t x ∧ onIface v f d = f t x) ∨ onIface v f d = d := by
  cases v <;> first | exact .inl ⟨_, _, rfl, rfl⟩ | exact .inr rfl
end elim

section gives
variable {α : Type} {ρ : Nat → Int} {m m' : Mem} {p q : Pc} {s : String} {v : α}
theorem onInt_gives {x : V} {f : IntKind → E → R α} (h : (onInt x f (R.fail s)).gives ρ m p v q) : ∃ k e, x = .int k e ∧ (f k e).gives ρ m p v q := by
  cases x <;> first | exact ⟨_, _, rfl, h⟩ | exact (R.gives_fail h).elim
theorem onBool_gives {x : V} {f : B → R α} (h : (onBool x f (R.fail s)).gives ρ m p v q) : ∃ b, x = .bool b ∧ (f b).gives ρ m p v q := by
  cases x <;> first | exact ⟨_, rfl, h⟩ | exact (R.gives_fail h).elim
theorem onStr_gives {x : V} {f : List E → R α} (h : (onStr x f (R.fail s)).gives ρ m p v q) : ∃ l, x = .str l ∧ (f l).gives ρ m p v q := by
  cases x <;> first | exact ⟨_, rfl, h⟩ | exact (R.gives_fail h).elim
theorem onPtr_gives {x : V} {f : Nat → Nat → R α} (h : (onPtr x f (R.fail s)).gives ρ m p v q) : ∃ i o, x = .ptr i o ∧ (f i o).gives ρ m p v q := by
  cases x <;> first | exact ⟨_, _, rfl, h⟩ | exact (R.gives_fail h).elim
theorem onAgg_gives {x : V} {f : List V → R α} (h : (onAgg x f (R.fail s)).gives ρ m p v q) : ∃ l, x = .agg l ∧ (f l).gives ρ m p v q := by
  cases x <;> first | exact ⟨_, rfl, h⟩ | exact (R.gives_fail h).elim
theorem onTup_gives {x : V} {f : List V → R α} (h : (onTup x f (R.fail s)).gives ρ m p v q) : ∃ l, x = .tuple l ∧ (f l).gives ρ m p v q := by
  cases x <;> first | exact ⟨_, rfl, h⟩ | exact (R.gives_fail h).elim
theorem onIntM_gives {x : V} {f : IntKind → E → M α} (h : (onInt x f (M.fail s)).gives ρ m p v m' q) : ∃ k e, x = .int k e ∧ (f k e).gives ρ m p v m' q := by
  cases x <;> first | exact ⟨_, _, rfl, h⟩ | exact (M.gives_fail h).elim
theorem onStrM_gives {x : V} {f : List E → M α} (h : (onStr x f (M.fail s)).gives ρ m p v m' q) : ∃ l, x = .str l ∧ (f l).gives ρ m p v m' q := by
  cases x <;> first | exact ⟨_, rfl, h⟩ | exact (M.gives_fail h).elim
theorem onPtrM_gives {x : V} {f : Nat → Nat → M α} (h : (onPtr x f (M.fail s)).gives ρ m p v m' q) : ∃ i o, x = .ptr i o ∧ (f i o).gives ρ m p v m' q := by
  cases x <;> first | exact ⟨_, _, rfl, h⟩ | exact (M.gives_fail h).elim
theorem onMapM_gives {x : V} {f : Nat → M α} (h : (onMap x f (M.fail s)).gives ρ m p v m' q) : ∃ i, x = .map i ∧ (f i).gives ρ m p v m' q := by
  cases x <;> first | exact ⟨_, rfl, h⟩ | exact (M.gives_fail h).elim
theorem onIfaceM_gives {x : V} {f : TypeId → V → M α} (h : (onIface x f (M.fail s)).gives ρ m p v m' q) : ∃ t y, x = .iface t y ∧ (f t y).gives ρ m p v m' q := by
  cases x <;> first | exact ⟨_, _, rfl, h⟩ | exact (M.gives_fail h).elim
end gives

/-! ### the cells of a value -/

theorem V.cells_agg (l : List V) : (V.agg l).cells = l := rfl
theorem VR.cells {c : Cx} {v : V} {x : Value} (h : VR c v x) (hb : v ≠ .bad) : VRs c v.cells x.cells.toList := by
  cases v with
  | agg l => obtain ⟨xs, rfl, hs⟩ := VR.agg.1 h; exact hs
  | bad => exact absurd rfl hb
  | _ =>
    refine (?_ : VRs c [_] x.cells.toList)
    have hx : x.cells.toList = [x] := by
      cases x with
      | agg xs => exfalso; revert h; unfold VR; simp
      | _ => rfl
    rw [hx]; exact VRs.cons h VRs.nil

/-- a value that one cell holds is no aggregate -/
theorem VR.oneCell {c : Cx} {v : V} {x : Value} (h : VR c v x) (hb : v.cellb = true) : (∀ a, x ≠ .agg a) ∧ ∀ a, x ≠ .tuple a := by
  cases v <;> first | (exact (Bool.false_ne_true hb).elim) | (constructor <;> (intro a ha; subst ha; revert h; unfold VR; simp))

/-! ### memory -/

/-- the entries of a map -/
def EsR (c : Cx) (es : List (V × V × Nat)) (es' : List MapEntry) : Prop :=
  es'.length = es.length ∧ ∀ (n : Nat) (e : V × V × Nat), es[n]? = some e → ∃ e' : MapEntry, es'[n]? = some e' ∧ VR c e.1 e'.key ∧ VR c e.2.1 e'.val ∧ e'.born = e.2.2

/-- the entries of a map, in that order -/
def KvR (c : Cx) : List (V × V) → List MapEntry → Prop
  | [], [] => True
  | e :: es, e' :: es' => VR c e.1 e'.key ∧ VR c e.2 e'.val ∧ KvR c es es'
  | _, _ => False

/-- in some order -/
def PmR (c : Cx) (es : List (V × V)) (l : List MapEntry) : Prop := ∃ l', l'.Perm l ∧ KvR c es l'

def Blk.wrB : Blk → Bool
  | .cells _ wr _ _ => wr
  | .map _ _ wr => wr
  | .pm _ wr => wr
  | .rsv => false
  | .siter _ _ => true
  | .srow _ _ _ => false
  | .lp _ _ _ _ _ _ _ => true

def Blk.plB : Blk → Bool
  | .cells _ _ pl _ => pl
  | _ => false

/-- two blocks that must not be one: one of them may be written, or both bear no mark of a string -/
def Blk.apt (b b' : Blk) : Bool := b.wrB || b'.wrB || (b.plB && b'.plB)

/-- a row without elements stands for nothing -/
def Blk.live (c : Cx) : Blk → Prop
  | .srow _ _ n => 0 < n.den c.ρ
  | .rsv => False
  | _ => True

theorem Blk.wr_live {c : Cx} {b : Blk} (h : b.wrB = true) : b.live c := by
  cases b <;> first | trivial | (exact absurd h (by simp [Blk.wrB]))

theorem Blk.apt_left {b b' : Blk} (h : b.wrB = true) : b.apt b' = true := by simp [Blk.apt, h]
theorem Blk.apt_right {b b' : Blk} (h : b'.wrB = true) : b.apt b' = true := by simp [Blk.apt, h]

/-- the block 'b' stands for what lies at 'loc' -/
def BlkR (c : Cx) (w : World) (loc : Nat × Nat) : Blk → Prop
  | .cells l wr pl g => ∃ cs t fr, w.heap[loc.1]? = some (.cells cs t fr) ∧
      (∀ (j : Nat) (v : V), l[j]? = some v → ∃ x, cs[loc.2 + j]? = some x ∧ VR c v x) ∧
      (pl = true → fr = (0, 0)) ∧ (wr = true → fr = (0, 0) ∨ cs.size ≤ fr.1) ∧
      (match g with | none => True | some (tk, sz) => tk < c.nt ∧ loc.2 + c.γ tk * sz ≤ cs.size)
  | .map es clock _ => ∃ es', w.heap[loc.1]? = some (.map es' clock) ∧ EsR c es es'.toList
  | .pm es _ => ∃ es' k, w.heap[loc.1]? = some (.map es' k) ∧ PmR c es es'.toList
  | .rsv => False
  | .lp st pe ps a b n env => ∃ fn tmps df, w.heap[loc.1]? = some (.loop { state := st, pending := pe, fn := fn, tmps := tmps, params := ps.toArray, assign := a, body := b, defers := df }) ∧ tmps.size = n ∧ (∀ j, VR c (env j) (tmps.getD j undef)) ∧ (codeRegs a && codeRegs b) = true
  | .siter l pos => loc.2 = 0 ∧ ((l = [] ∧ ∃ b since last, w.heap[loc.1]? = some (.mapIter (some b) since #[] last) ∧ VR c (.map pos) (.map (some b))) ∨
      ∃ e r z, l = e :: r ∧ w.heap[loc.1]? = some (.stringIter z pos) ∧ BR c r z.data.toList)
  | .srow a ls n => 0 < n.den c.ρ → ∃ cs t fr, w.heap[loc.1]? = some (.cells cs t fr) ∧
      ∀ (q r : Nat) (l : Lf), (q : Int) < n.den c.ρ → ls[r]? = some l → ∃ x, cs[loc.2 + (q * ls.length + r)]? = some x ∧ l.Is (c.ρ (rowVar a r q)) x

/-- what is known of the name i: a block, or nothing: it is kept -/
def Cx.blkB (c : Cx) (w : World) (i : Nat) : Blk → Prop
  | .rsv => i < c.nb ∧ ¬ c.has i
  | .cells l wr pl g => c.has i ∧ BlkR c w (c.β i) (.cells l wr pl g)
  | .map es k wr => c.has i ∧ BlkR c w (c.β i) (.map es k wr)
  | .siter l p => c.has i ∧ BlkR c w (c.β i) (.siter l p)
  | .srow a ls n => c.has i ∧ BlkR c w (c.β i) (.srow a ls n)
  | .pm es wr => c.has i ∧ BlkR c w (c.β i) (.pm es wr)
  | .lp st pe ps a b n env => c.has i ∧ BlkR c w (c.β i) (.lp st pe ps a b n env)

structure MemR (c : Cx) (m : Mem) (w : World) : Prop where
  nb : c.nb = m.nb
  nt : c.nt = m.nt
  blk : ∀ i b, m.tr.get i = some b → c.blkB w i b
  inj : ∀ i j b b', m.tr.get i = some b → m.tr.get j = some b' → i ≠ j → b.apt b' = true → b.live c → b'.live c → (c.β i).1 ≠ (c.β j).1
  tok : ∀ t n, m.tok.get t = some n → t < c.nt ∧ n ≤ c.γ t

theorem EsR.mono {n0 : Nat} {c c' : Cx} (h : c.leN n0 c') {es : List (V × V × Nat)} {es' : List MapEntry} (he : EsR c es es') : EsR c' es es' :=
  ⟨he.1, fun n e hn => let ⟨e', h1, h2, h3, h4⟩ := he.2 n e hn; ⟨e', h1, h2.mono h, h3.mono h, h4⟩⟩

theorem KvR.mono {n0 : Nat} {c c' : Cx} (h : c.leN n0 c') : ∀ {es : List (V × V)} {l : List MapEntry}, KvR c es l → KvR c' es l
  | [], [], _ => trivial
  | _ :: _, _ :: _, ⟨h1, h2, h3⟩ => ⟨h1.mono h, h2.mono h, h3.mono h⟩
  | [], _ :: _, h => h.elim
  | _ :: _, [], h => h.elim

theorem PmR.mono {n0 : Nat} {c c' : Cx} (h : c.leN n0 c') {es : List (V × V)} {l : List MapEntry} (he : PmR c es l) : PmR c' es l :=
  let ⟨l', h1, h2⟩ := he; ⟨l', h1, h2.mono h⟩

theorem Blk.live_le {n0 : Nat} {c c' : Cx} (h : c.leN n0 c') {b : Blk} : b.live c' ↔ b.live c := by
  cases b with
  | srow a ls n => show 0 < n.den c'.ρ ↔ 0 < n.den c.ρ; rw [h.ρ]
  | _ => exact Iff.rfl

theorem BlkR.mono {n0 : Nat} {c c' : Cx} (h : c.leN n0 c') {w : World} {loc : Nat × Nat} {b : Blk} (hb : BlkR c w loc b) : BlkR c' w loc b := by
  cases b with
  | cells l wr pl g =>
    obtain ⟨cs, t, fr, h1, h2, h3, h4, h5⟩ := hb
    refine ⟨cs, t, fr, h1, fun j v hj => let ⟨x, a, b⟩ := h2 j v hj; ⟨x, a, b.mono h⟩, h3, h4, ?_⟩
    cases g with
    | none => trivial
    | some g => obtain ⟨tk, sz⟩ := g; exact ⟨Nat.lt_of_lt_of_le h5.1 h.nt, by show loc.2 + c'.γ tk * sz ≤ cs.size; rw [h.γ tk h5.1]; exact h5.2⟩
  | map es clock wr => obtain ⟨es', h1, h2⟩ := hb; exact ⟨es', h1, h2.mono h⟩
  | rsv => exact hb.elim
  | lp st pe ps a b n env => obtain ⟨fn, tmps, df, h1, h2, h3, h4⟩ := hb; exact ⟨fn, tmps, df, h1, h2, fun j => (h3 j).mono h, h4⟩
  | pm es wr => obtain ⟨es', k, h1, h2⟩ := hb; exact ⟨es', k, h1, h2.mono h⟩
  | siter l pos =>
    obtain ⟨h0, ⟨hl, b, s, e, h1, h2⟩ | ⟨e, r, z, hl, h1, h2⟩⟩ := hb
    · exact ⟨h0, .inl ⟨hl, b, s, e, h1, h2.mono h⟩⟩
    · exact ⟨h0, .inr ⟨e, r, z, hl, h1, h2.mono h⟩⟩
  | srow a ls n =>
    intro hn
    obtain ⟨cs, t, fr, h1, h2⟩ := hb (by rw [← h.ρ]; exact hn)
    exact ⟨cs, t, fr, h1, fun q r l hq hl => by rw [h.ρ] at *; exact h2 q r l hq hl⟩

/-- a block's relation hangs on its own place alone -/
theorem BlkR.world {c : Cx} {w w' : World} {loc : Nat × Nat} {b : Blk} (hw : w'.heap[loc.1]? = w.heap[loc.1]?) (hb : BlkR c w loc b) : BlkR c w' loc b := by
  cases b <;> (unfold BlkR at *; rw [hw]; exact hb)

theorem BlkR.world' {c : Cx} {w w' : World} {loc : Nat × Nat} {b : Blk} (hw : b.live c → w'.heap[loc.1]? = w.heap[loc.1]?) (hb : BlkR c w loc b) : BlkR c w' loc b := by
  cases b with
  | srow a ls n =>
    intro hn
    have := hb hn
    rw [← hw hn] at this; exact this
  | rsv => exact hb.elim
  | _ => exact hb.world (hw trivial)

theorem BlkR.lt {c : Cx} {w : World} {loc : Nat × Nat} {b : Blk} (hb : BlkR c w loc b) (hl : b.live c) : loc.1 < w.heap.size := by
  have key : ∀ o, w.heap[loc.1]? = some o → loc.1 < w.heap.size := fun o h => (Array.getElem?_eq_some_iff.1 h).1
  cases b with
  | cells => obtain ⟨cs, t, fr, h1, _⟩ := hb; exact key _ h1
  | map => obtain ⟨es', h1, _⟩ := hb; exact key _ h1
  | pm => obtain ⟨es', k, h1, _⟩ := hb; exact key _ h1
  | rsv => exact hl.elim
  | lp => obtain ⟨fn, tmps, df, h1, _⟩ := hb; exact key _ h1
  | siter => obtain ⟨_, ⟨_, _, _, _, h1, _⟩ | ⟨_, _, _, _, h1, _⟩⟩ := hb <;> exact key _ h1
  | srow => obtain ⟨cs, t, fr, h1, _⟩ := hb hl; exact key _ h1

theorem Cx.blkB.of {c : Cx} {w : World} {i : Nat} {b : Blk} (hi : c.has i) (hb : BlkR c w (c.β i) b) : c.blkB w i b := by
  cases b with
  | rsv => exact hb.elim
  | _ => exact ⟨hi, hb⟩

theorem Cx.blkB.known {c : Cx} {w : World} {i : Nat} {b : Blk} (h : c.blkB w i b) : (b = .rsv ∧ i < c.nb ∧ ¬ c.has i) ∨ (c.has i ∧ BlkR c w (c.β i) b) := by
  cases b with
  | rsv => exact .inl ⟨rfl, h⟩
  | _ => exact .inr h

theorem Cx.blkB.live {c : Cx} {w : World} {i : Nat} {b : Blk} (h : c.blkB w i b) (hl : b.live c) : c.has i ∧ BlkR c w (c.β i) b := by
  rcases h.known with ⟨rfl, _⟩ | h
  · exact hl.elim
  · exact h

theorem Cx.blkB.lt {c : Cx} {w : World} {i : Nat} {b : Blk} (h : c.blkB w i b) : i < c.nb := by
  rcases h.known with ⟨_, h, _⟩ | h
  · exact h
  · exact c.lt i h.1

/-- a block, known further on -/
theorem Cx.blkB.on {c c' : Cx} (h : c.le c') {w w' : World} {i : Nat} {b : Blk} (hb : c.blkB w i b) (hw : b.live c → w'.heap[(c.β i).1]? = w.heap[(c.β i).1]?) : c'.blkB w' i b := by
  rcases hb.known with ⟨rfl, h1, h2⟩ | ⟨h1, h2⟩
  · exact ⟨Nat.lt_of_lt_of_le h1 h.nb, fun e => h2 (h.old i h1 e)⟩
  · refine .of (h.hs i h1) ?_
    rw [h.β i h1]
    exact (h2.world' hw).mono h

/-! ### steps -/

/-- the block 'b' is one that may be written -/
def Wr (c : Cx) (m : Mem) (b : Nat) : Prop := ∃ i blk, m.tr.get i = some blk ∧ blk.wrB = true ∧ (c.β i).1 = b

/-- what is known lies there -/
def Ad (c : Cx) (m : Mem) (b : Nat) : Prop := ∃ i blk, m.tr.get i = some blk ∧ blk.live c ∧ (c.β i).1 = b

/-- from (c, m, w) on to (c', m', w'): what may not be written is as it was -/
structure StepN (k : Nat) (c : Cx) (m : Mem) (w : World) (c' : Cx) (m' : Mem) (w' : World) : Prop where
  rel : MemR c' m' w'
  le : c.leN k c'
  os : w'.os = w.os
  tape : w'.tape = w.tape
  output : w'.output = w.output
  size : w.heap.size ≤ w'.heap.size
  frame : ∀ b, b < w.heap.size → ¬ Wr c m b → w'.heap[b]? = w.heap[b]?
  wr : ∀ b, Wr c' m' b → Wr c m b ∨ w.heap.size ≤ b
  ad : ∀ b, Ad c' m' b → Ad c m b ∨ w.heap.size ≤ b

abbrev Step (c : Cx) (m : Mem) (w : World) (c' : Cx) (m' : Mem) (w' : World) : Prop := StepN c.nb c m w c' m' w'

theorem Step.refl {c : Cx} {m : Mem} {w : World} (h : MemR c m w) : Step c m w c m w :=
  ⟨h, Cx.le.refl c, rfl, rfl, rfl, Nat.le_refl _, fun _ _ _ => rfl, fun _ h => .inl h, fun _ h => .inl h⟩

theorem StepN.trans {n0 : Nat} {c c1 c2 : Cx} {m m1 m2 : Mem} {w w1 w2 : World} (h : StepN n0 c m w c1 m1 w1) (k : StepN n0 c1 m1 w1 c2 m2 w2) : StepN n0 c m w c2 m2 w2 :=
  ⟨k.rel, h.le.trans k.le, k.os.trans h.os, k.tape.trans h.tape, k.output.trans h.output, Nat.le_trans h.size k.size,
   fun b hb hw => by
    rw [k.frame b (Nat.lt_of_lt_of_le hb h.size) (fun hw1 => (h.wr b hw1).elim hw (fun h' => by omega))]
    exact h.frame b hb hw,
   fun b hb => (k.wr b hb).elim (fun h1 => (h.wr b h1).elim .inl .inr) (fun h1 => .inr (Nat.le_trans h.size h1)),
   fun b hb => (k.ad b hb).elim (fun h1 => (h.ad b h1).elim .inl .inr) (fun h1 => .inr (Nat.le_trans h.size h1))⟩

theorem StepN.weak {n0 k : Nat} {c c1 : Cx} {m m1 : Mem} {w w1 : World} (h : StepN n0 c m w c1 m1 w1) (hk : k ≤ n0) : StepN k c m w c1 m1 w1 :=
  ⟨h.rel, h.le.weak hk, h.os, h.tape, h.output, h.size, h.frame, h.wr, h.ad⟩

theorem Step.trans {c c1 c2 : Cx} {m m1 m2 : Mem} {w w1 w2 : World} (h : Step c m w c1 m1 w1) (k : Step c1 m1 w1 c2 m2 w2) : Step c m w c2 m2 w2 :=
  StepN.trans h (k.weak h.le.nb)

theorem Step.drew {c : Cx} {m : Mem} {w : World} (h : MemR c m w) : Step c m w c m w.drew :=
  ⟨⟨h.nb, h.nt, h.blk, h.inj, h.tok⟩, Cx.le.refl c, rfl, rfl, rfl, Nat.le_refl _, fun _ _ _ => rfl, fun _ h => .inl h, fun _ h => .inl h⟩

end Go.Sy

/-
  What is proved here: the evaluator's reading operations do what the model's do.
  Conditions: none.
-/
namespace Go.Sy

/-! ### types -/

section types
variable {P : Program} {w : World} {t : TypeId}
theorem run_und {d : TypeDesc} (h : P.underlying t = some d) : (underlying t).run P w = .ok d w := by simp [underlying, h]
theorem run_info {i : TypeInfo} (h : P.info? t = some i) : (typeInfo t).run P w = .ok i w := by simp [typeInfo, h]
theorem run_size {n : Nat} (h : szOf P t = some n) : (sizeOf t).run P w = .ok n w := by
  simp only [szOf, Option.map_eq_some_iff] at h
  obtain ⟨i, hi, rfl⟩ := h
  simp [sizeOf, run_info hi]
theorem run_agg {b : Bool} (h : isAggT P t = some b) : (isAgg t).run P w = .ok b w := by
  simp only [isAggT, Option.map_eq_some_iff] at h
  obtain ⟨d, hd, rfl⟩ := h
  simp only [isAgg, Sem.run_bind, run_und hd, Result.andThen_ok]
  cases d <;> rfl
theorem aggSz_some {o : Option Nat} (h : aggSz P t = some o) : (∃ n, o = some n ∧ isAggT P t = some true ∧ szOf P t = some n) ∨ (o = none ∧ isAggT P t = some false ∧ ∃ n, szOf P t = some n) := by
  unfold aggSz at h
  split at h
  · rename_i n h1 h2; simp at h; exact .inl ⟨n, h.symm, h1, h2⟩
  · rename_i n h1 h2; simp at h; exact .inr ⟨h.symm, h1, n, h2⟩
  · simp at h
end types

/-! ### constants -/

theorem mapO_some {α β : Type} {f : α → Option β} : ∀ {l : List α} {r : List β}, mapO f l = some r → r.length = l.length ∧ ∀ (n : Nat) (b : β), r[n]? = some b → ∃ a, l[n]? = some a ∧ f a = some b
  | [], r, h => by
    have h : some [] = some r := h
    simp at h; subst h; simp
  | a :: l, r, h => by
    have h : (Option.rec none (fun b => Option.rec none (fun r => some (b :: r)) (mapO f l)) (f a) : Option (List β)) = some r := h
    cases ha : f a with
    | none => rw [ha] at h; simp at h
    | some b =>
      rw [ha] at h
      cases hl : mapO f l with
      | none => rw [hl] at h; simp at h
      | some q =>
        rw [hl] at h
        have h : some (b :: q) = some r := h
        simp at h; subst h
        obtain ⟨h1, h2⟩ := mapO_some hl
        refine ⟨by simp [h1], fun n b' hb => ?_⟩
        cases n with
        | zero => simp at hb; subst hb; exact ⟨a, by simp, ha⟩
        | succ n => simpa using h2 n b' (by simpa using hb)

theorem ofVal_ok {c : Cx} : ∀ (d : Nat) {x : Value} {v : V}, ofVal d x = some v → VR c v x
  | 0, _, _, h => by simp [ofVal] at h
  | d + 1, x, v, h => by
    have hl : ∀ {xs : Array Value} {l : List V}, mapO (ofVal d) xs.toList = some l → VRs c l xs.toList := by
      intro xs l hm
      obtain ⟨h1, h2⟩ := mapO_some hm
      exact VRs.of_get h1.symm fun n u hu => by
        obtain ⟨a, ha, hf⟩ := h2 n u hu
        exact ⟨a, ha, ofVal_ok d hf⟩
    cases x <;> simp only [ofVal] at h
    case bool b => simp at h; subst h; exact VR.lit
    case int k n =>
      unfold intVal at h
      cases hc : (leZ (kMin k) n && leZ n (kMax k)) <;> simp [hc] at h
      subst h
      simp only [Bool.and_eq_true, leZ_iff] at hc
      exact VR.int.2 ⟨rfl, hc.1, hc.2⟩
    case string s =>
      simp [strVal'] at h; subst h
      exact VR.str.2 ⟨s, rfl, by simp [BR, E.den, Function.comp_def]⟩
    case pointer a => cases a <;> simp [ptrVal] at h; subst h; exact VR.nilPtr.2 rfl
    case slice a n k =>
      unfold sliceVal at h
      split at h <;> simp at h
      subst h; exact VR.nilSlice.2 rfl
    case map r => cases r <;> simp [mapVal] at h; subst h; exact VR.nilMap.2 rfl
    case nilFunc => simp at h; subst h; exact VR.nilFunc.2 rfl
    case nilIface => simp at h; subst h; exact VR.nilIface.2 rfl
    case func fn a b =>
      unfold funcVal at h
      split at h <;> simp at h
      rename_i l l' h1 h2
      subst h; exact VR.func.2 ⟨a, b, rfl, hl h1, hl h2⟩
    case iface t y =>
      simp only [Option.map_eq_some_iff] at h
      obtain ⟨u, h1, rfl⟩ := h
      exact VR.iface.2 ⟨y, rfl, ofVal_ok d h1⟩
    case agg cs =>
      simp only [Option.map_eq_some_iff] at h
      obtain ⟨u, h1, rfl⟩ := h
      exact VR.agg.2 ⟨cs, rfl, hl h1⟩
    case tuple cs =>
      simp only [Option.map_eq_some_iff] at h
      obtain ⟨u, h1, rfl⟩ := h
      exact VR.tuple.2 ⟨cs, rfl, hl h1⟩
    all_goals simp at h

theorem constV_ok {c : Cx} (x : Value) : VR c (constV x) x := by
  unfold constV
  cases h : ofVal 8 x with
  | none => exact VR.bad
  | some v => exact ofVal_ok 8 h

theorem zeroOf_ok {P : Program} {t : TypeId} {z : V} (h : zeroOf P t = some z) : ∃ i zv, P.info? t = some i ∧ i.zero = some zv ∧ (∀ c, VR c z zv) ∧ ∀ w, (zeroValue t).run P w = .ok zv w := by
  unfold zeroOf at h
  split at h
  · rename_i i hi
    split at h
    · rename_i zv hz
      exact ⟨i, zv, hi, hz, fun c => ofVal_ok 8 h, fun w => by simp [zeroValue, run_info hi, hz]⟩
    · simp at h
  · simp at h

/-! ### lists -/

section lists
variable {α : Type}
theorem dropN_eq : ∀ (n : Nat) (l : List α), dropN n l = l.drop n
  | 0, _ => rfl
  | _ + 1, [] => rfl
  | n + 1, _ :: l => dropN_eq n l

theorem nth_eq : ∀ (n : Nat) (l : List α), nth n l = l[n]?
  | 0, [] => rfl
  | 0, _ :: _ => rfl
  | _ + 1, [] => rfl
  | n + 1, _ :: l => by rw [List.getElem?_cons_succ]; exact nth_eq n l

theorem takeE_eq : ∀ {n : Nat} {l r : List α}, takeE n l = some r → r = l.take n ∧ r.length = n
  | 0, l, r, h => by
    have h : some [] = some r := h
    simp at h; subst h; simp
  | n + 1, [], r, h => by
    have h : none = some r := h
    simp at h
  | n + 1, a :: l, r, h => by
    have h : (Option.rec none (fun q => some (a :: q)) (takeE n l) : Option (List α)) = some r := h
    cases hq : takeE n l with
    | none => rw [hq] at h; simp at h
    | some q =>
      rw [hq] at h
      have h : some (a :: q) = some r := h
      simp at h; subst h
      obtain ⟨h1, h2⟩ := takeE_eq hq
      exact ⟨by simp [h1], by simp [h2]⟩

theorem lenL_eq : ∀ (l : List α), lenL l = l.length
  | [] => rfl
  | _ :: l => congrArg Nat.succ (lenL_eq l)
end lists

theorem catV_eq : ∀ (a b : List V), catV a b = a ++ b
  | [], _ => rfl
  | x :: a, b => congrArg (List.cons x) (catV_eq a b)

theorem catE_eq : ∀ (a b : List E), catE a b = a ++ b
  | [], _ => rfl
  | x :: a, b => congrArg (List.cons x) (catE_eq a b)

/-! ### reading memory -/

section mem
variable {P : Program} {c : Cx} {m : Mem} {w : World} {p q : Pc}

theorem Cx.ad_add (c : Cx) (i o n : Nat) : (c.ad i o).add n = c.ad i (o + n) := by
  unfold Addr.add Cx.ad
  split
  · rename_i h; subst h; rfl
  · simp [Nat.add_assoc]

theorem onCells_gives {α : Type} {b : Option Blk} {f : List V → Bool → Bool → Option (Nat × Nat) → T α} {s : String} {r : α} {ρ : Nat → Int}
    (h : (onCells b f (.fail s)).out ρ = some r) : ∃ l wr pl g, b = some (.cells l wr pl g) ∧ (f l wr pl g).out ρ = some r := by
  cases b with
  | none => simp [onCells, T.out] at h
  | some b =>
    cases b with
    | cells l wr pl g => exact ⟨l, wr, pl, g, rfl, h⟩
    | map => simp [onCells, T.out] at h
    | siter => simp [onCells, T.out] at h
    | srow => simp [onCells, T.out] at h
    | pm => simp [onCells, T.out] at h
    | rsv => simp [onCells, T.out] at h
    | lp => simp [onCells, T.out] at h

theorem onMapB_gives {α : Type} {b : Option Blk} {f : List (V × V × Nat) → Nat → Bool → T α} {s : String} {r : α} {ρ : Nat → Int}
    (h : (onMapB b f (.fail s)).out ρ = some r) : ∃ es k wr, b = some (.map es k wr) ∧ (f es k wr).out ρ = some r := by
  cases b with
  | none => simp [onMapB, T.out] at h
  | some b =>
    cases b with
    | map es k wr => exact ⟨es, k, wr, rfl, h⟩
    | cells => simp [onMapB, T.out] at h
    | siter => simp [onMapB, T.out] at h
    | srow => simp [onMapB, T.out] at h
    | pm => simp [onMapB, T.out] at h
    | rsv => simp [onMapB, T.out] at h
    | lp => simp [onMapB, T.out] at h

/-- a map whose order is not known, or another block -/
theorem onPm_cases {α : Type} {b : Option Blk} (f : List (V × V) → Bool → α) (d : α) : (∃ es wr, b = some (.pm es wr) ∧ onPm b f d = f es wr) ∨ onPm b f d = d := by
  cases b with
  | none => exact .inr rfl
  | some b => cases b with
    | pm es wr => exact .inl ⟨es, wr, rfl, rfl⟩
    | _ => exact .inr rfl

theorem KvR.length {c : Cx} : ∀ {es : List (V × V)} {l : List MapEntry}, KvR c es l → l.length = es.length
  | [], [], _ => rfl
  | _ :: _, _ :: _, ⟨_, _, h⟩ => by simp [KvR.length h]
  | [], _ :: _, h => h.elim
  | _ :: _, [], h => h.elim

theorem PmR.length {c : Cx} {es : List (V × V)} {l : List MapEntry} (h : PmR c es l) : l.length = es.length := by
  obtain ⟨l', h1, h2⟩ := h
  rw [← h1.length_eq, h2.length]

/-- a cell that is known -/
theorem cell_known (hm : MemR c m w) {i o : Nat} {l : List V} {wr pl : Bool} {g : Option (Nat × Nat)} {v : V} (hb : m.tr.get i = some (.cells l wr pl g)) (hv : l[o]? = some v) :
    ∃ x, w.cell? (c.ad i o) = some x ∧ VR c v x := by
  obtain ⟨_, cs, t, fr, h1, h2, _⟩ := hm.blk i _ hb
  obtain ⟨x, hx, hr⟩ := h2 o v hv
  exact ⟨x, by simp [World.cell?, Cx.ad, h1, hx], hr⟩

theorem rd1_ok (hm : MemR c m w) {i o : Nat} {v : V} (h : (rd1 i o).gives c.ρ m p v q) : q = p ∧ ∃ x, (load (c.ad i o)).run P w = .ok x w ∧ VR c v x := by
  obtain ⟨l, wr, pl, g, hb, h⟩ := onCells_gives h
  have h : (R.opt "load a cell that is not known" (nth o l)).gives c.ρ m p v q := h
  obtain ⟨h1, rfl⟩ := R.gives_opt h
  rw [nth_eq] at h1
  obtain ⟨x, hx, hr⟩ := cell_known hm hb h1
  exact ⟨rfl, x, by simp [run_load, hx], hr⟩

theorem rdCells_ok (hm : MemR c m w) {i o n : Nat} {r : List V} (h : (rdCells i o n).gives c.ρ m p r q) :
    q = p ∧ r.length = n ∧ ∃ xs : Array Value, (loadCells (c.ad i o) n).run P w = .ok xs w ∧ VRs c r xs.toList ∧ ∀ (j : Nat) (y : Value), xs.toList[j]? = some y → w.cell? ((c.ad i o).add j) = some y := by
  obtain ⟨l, wr, pl, g, hb, h⟩ := onCells_gives h
  have h : (R.opt "load a cell that is not known" (takeE n (dropN o l))).gives c.ρ m p r q := h
  obtain ⟨h1, rfl⟩ := R.gives_opt h
  rw [dropN_eq] at h1
  obtain ⟨h2, h3⟩ := takeE_eq h1
  have hc : ∀ j, j < n → ∃ v x, r[j]? = some v ∧ w.cell? ((c.ad i o).add j) = some x ∧ VR c v x := by
    intro j hj
    have hv : r[j]? = some r[j] := List.getElem?_eq_getElem (by omega)
    have hl : l[o + j]? = some r[j] := by
      have : r[j]? = (l.drop o)[j]? := by rw [h2, List.getElem?_take_of_lt hj]
      rw [← hv, this, List.getElem?_drop]
    obtain ⟨x, hx, hr⟩ := cell_known hm hb hl
    exact ⟨r[j], x, hv, by rw [Cx.ad_add]; exact hx, hr⟩
  refine ⟨rfl, h3, ((List.range n).map fun j => (w.cell? ((c.ad i o).add j)).getD undef).toArray, ?_, ?_, ?_⟩
  · exact run_loadCells w (c.ad i o) n _ fun j hj => by
      obtain ⟨v, x, _, hx, _⟩ := hc j hj
      simp [hx]
  · refine VRs.of_get (by simp [h3]) fun j v hv => ?_
    have hj : j < n := by
      rcases Nat.lt_or_ge j n with h' | h'
      · exact h'
      · rw [List.getElem?_eq_none (by omega)] at hv; simp at hv
    obtain ⟨v', x, hv', hx, hr⟩ := hc j hj
    rw [hv] at hv'; simp at hv'; subst hv'
    exact ⟨x, by simp [hj, hx], hr⟩
  · intro j y hy
    simp at hy
    obtain ⟨k, hk, rfl⟩ := hy
    rcases Nat.lt_or_ge j n with h' | h'
    · rw [List.getElem?_range h'] at hk; simp at hk; subst hk
      obtain ⟨v', x, hv', hx, hr⟩ := hc j h'
      simp [hx]
    · rw [List.getElem?_eq_none (by simpa using h')] at hk; simp at hk

theorem loadV_ok (hm : MemR c m w) {t : TypeId} {i o : Nat} {v : V} (h : (loadV P t i o).gives c.ρ m p v q) :
    q = p ∧ ∃ x, (loadVar t (c.ad i o)).run P w = .ok x w ∧ VR c v x := by
  unfold loadV at h
  cases ha : aggSz P t with
  | none => rw [ha] at h; exact (R.gives_fail h).elim
  | some a =>
    rw [ha] at h
    rcases aggSz_some ha with ⟨n, rfl, h1, h2⟩ | ⟨rfl, h1, _⟩
    · have h : ((rdCells i o n).bnd fun l => R.pure (.agg l)).gives c.ρ m p v q := h
      obtain ⟨l, p1, h3, h4⟩ := R.gives_bnd h
      obtain ⟨rfl, rfl⟩ := R.gives_pure h4
      obtain ⟨rfl, _, xs, h5, h6, _⟩ := rdCells_ok (P := P) hm h3
      exact ⟨rfl, .agg xs, by simp [loadVar, run_agg h1, run_size h2, h5], VR.agg.2 ⟨xs, rfl, h6⟩⟩
    · have h : (rd1 i o).gives c.ρ m p v q := h
      obtain ⟨rfl, x, h3, h4⟩ := rd1_ok (P := P) hm h
      exact ⟨rfl, x, by simp only [loadVar, Sem.run_bind, run_agg h1, Result.andThen_ok, Bool.false_eq_true, if_false, h3], h4⟩

theorem mustR_gives (hp : PcR c.ρ p) {b : B} {u : Unit} (h : (mustR b).gives c.ρ m p u q) : b.den c.ρ = true ∧ q = p := by
  unfold R.gives mustR at h
  cases hd : decE p b with
  | none => rw [hd] at h; simp [T.out] at h
  | some v =>
    rw [hd] at h
    have h : (selB v (.ret ⟨(), p⟩) (.fail "a bound that does not hold") : T (Rp Unit)).out c.ρ = some ⟨u, q⟩ := h
    cases v with
    | false => simp [selB, T.out] at h
    | true =>
      simp [selB, T.out] at h
      exact ⟨decE_ok hp hd, h.symm⟩

theorem onRow_gives {α : Type} {b : Option Blk} {f : Nat → List Lf → E → T α} {s : String} {r : α} {ρ : Nat → Int}
    (h : (onRow b f (.fail s)).out ρ = some r) : ∃ a ls n, b = some (.srow a ls n) ∧ (f a ls n).out ρ = some r := by
  cases b with
  | none => simp [onRow, T.out] at h
  | some b =>
    cases b with
    | srow a ls n => exact ⟨a, ls, n, rfl, h⟩
    | _ => simp [onRow, T.out] at h

theorem leafV_ok {a r j : Nat} {e : E} {l : Lf} {x : Value} (he : e.den c.ρ = (j : Int)) (hx : l.Is (c.ρ (rowVar a r j)) x) : VR c (leafV a e l r) x := by
  have hv : ∀ lo hi : Int, lo ≤ c.ρ (rowVar a r j) → c.ρ (rowVar a r j) ≤ hi → (E.rd a r lo hi e).den c.ρ = c.ρ (rowVar a r j) := by
    intro lo hi h0 h1
    show clampZ lo hi (c.ρ (rowVar a r (e.den c.ρ).toNat)) = _
    rw [he, Int.toNat_natCast]; exact clampZ_eq h0 h1
  cases l with
  | int k =>
    obtain ⟨rfl, h0, h1⟩ := hx
    show VR c (V.int k (.rd a r (kMin k) (kMax k) e)) _
    rw [VR.int, hv _ _ h0 h1]
    exact ⟨rfl, h0, h1⟩
  | bool =>
    obtain ⟨rfl, h0, h1⟩ := hx
    show VR c (V.bool (.eq (.rd a r 0 1 e) (.n 1))) _
    rw [VR.bool]
    show _ = Value.bool ((E.rd a r 0 1 e).den c.ρ == 1)
    rw [hv _ _ h0 h1]
  | str => exact VR.bad

theorem leafVs_get {a : Nat} {e : E} : ∀ {ls : List Lf} {r j : Nat}, (leafVs a e ls r)[j]? = (ls[j]?).map fun l => leafV a e l (r + j)
  | [], r, j => by simp [leafVs]
  | l :: ls, r, 0 => by
    show (leafV a e l r :: leafVs a e ls (r + 1))[0]? = _
    simp
  | l :: ls, r, j + 1 => by
    show (leafV a e l r :: leafVs a e ls (r + 1))[j + 1]? = _
    rw [List.getElem?_cons_succ, leafVs_get, List.getElem?_cons_succ, show r + 1 + j = r + (j + 1) by omega]

theorem row_cell (hm : MemR c m w) {i a : Nat} {ls : List Lf} {n : E} (hb : m.tr.get i = some (.srow a ls n)) {q r : Nat} {l : Lf} (hq : (q : Int) < n.den c.ρ) (hl : ls[r]? = some l) :
    ∃ x, w.cell? (c.ad i (q * ls.length + r)) = some x ∧ l.Is (c.ρ (rowVar a r q)) x := by
  obtain ⟨_, hrow⟩ := hm.blk i _ hb
  obtain ⟨cs, t, fr, h1, h2⟩ := hrow (by omega)
  obtain ⟨x, hx, hr⟩ := h2 q r l hq hl
  exact ⟨x, by simp [World.cell?, Cx.ad, h1, hx], hr⟩

/-- cells that are known, one by one -/
theorem loadCells_of {i o n : Nat} {r : List V} (h3 : r.length = n) (hc : ∀ j, j < n → ∃ v x, r[j]? = some v ∧ w.cell? ((c.ad i o).add j) = some x ∧ VR c v x) :
    ∃ xs : Array Value, (loadCells (c.ad i o) n).run P w = .ok xs w ∧ VRs c r xs.toList := by
  refine ⟨((List.range n).map fun j => (w.cell? ((c.ad i o).add j)).getD undef).toArray, ?_, ?_⟩
  · exact run_loadCells w (c.ad i o) n _ fun j hj => by
      obtain ⟨v, x, _, hx, _⟩ := hc j hj
      simp [hx]
  · refine VRs.of_get (by simp [h3]) fun j v hv => ?_
    have hj : j < n := by
      rcases Nat.lt_or_ge j n with h' | h'
      · exact h'
      · rw [List.getElem?_eq_none (by omega)] at hv; simp at hv
    obtain ⟨v', x, hv', hx, hr⟩ := hc j hj
    rw [hv] at hv'; simp at hv'; subst hv'
    exact ⟨x, by simp [hj, hx], hr⟩

theorem knE_den {ρ : Nat → Int} (hp : PcR ρ p) (e : E) : (knE p e).den ρ = e.den ρ := by
  unfold knE
  cases h : ivf p e with
  | none => rfl
  | some r =>
    show (selB (eqZ r.1 r.2) (E.n r.1) e).den ρ = _
    cases hz : eqZ r.1 r.2 with
    | false => rfl
    | true =>
      rw [eqZ_iff] at hz
      obtain ⟨h1, h2⟩ := ivf_ok hp e r.1 r.2 h
      show r.1 = e.den ρ
      omega

theorem kn1_ok (hp : PcR c.ρ p) {v : V} {x : Value} (h : VR c v x) : VR c (kn1 p v) x := by
  cases v with
  | int k e => rw [VR.int] at h; exact VR.int.2 (by rw [knE_den hp]; exact h)
  | _ => exact h

theorem knL_ok (hp : PcR c.ρ p) : ∀ {l : List V} {xs : List Value}, VRs c l xs → VRs c (knL p l) xs
  | [], _, h => h
  | _ :: _, _, h => by
    obtain ⟨x, ys, rfl, h1, h2⟩ := VRs.cons_iff.1 h
    exact VRs.cons (kn1_ok hp h1) (knL_ok hp h2)

theorem knV_ok (hp : PcR c.ρ p) {v : V} {x : Value} (h : VR c v x) : VR c (knV p v) x := by
  cases v with
  | int k e => rw [VR.int] at h; exact VR.int.2 (by rw [knE_den hp]; exact h)
  | agg l =>
    rw [VR.agg] at h
    obtain ⟨xs, e, g⟩ := h
    exact VR.agg.2 ⟨xs, e, knL_ok hp g⟩
  | _ => exact h

theorem loadS_ok (hm : MemR c m w) (hp : PcR c.ρ p) {t : TypeId} {i sz j f : Nat} {e : E} {v : V} (he : e.den c.ρ = (j : Int)) (h : (loadS P t i sz e f).gives c.ρ m p v q) :
    q = p ∧ ∃ x, (loadVar t (c.ad i (j * sz + f))).run P w = .ok x w ∧ VR c v x := by
  obtain ⟨a, ls, n, hb, h⟩ := onRow_gives h
  have h : (selB (Nat.beq (lenL ls) sz) ((mustR (mkLt e n)).bnd fun _ => (Option.rec (R.fail "load") (fun k => Option.rec (R.opt "load a row" ((nth f ls).map fun l => leafV a e l f)) (fun k => R.opt "load a row" ((takeE k (dropN f ls)).map fun l => .agg (leafVs a e l f))) k) (aggSz P t) : R V)) (R.fail "load sizes")).gives c.ρ m p v q := by
    cases hs : Nat.beq (lenL ls) sz <;> rw [hs] at h <;> exact h
  obtain ⟨h0, h⟩ := R.gives_if h
  rw [beq_iff, lenL_eq] at h0
  obtain ⟨_, p1, h1, h2⟩ := R.gives_bnd h
  obtain ⟨h3, rfl⟩ := mustR_gives hp h1
  rw [mkLt_den] at h3
  have hlt : (j : Int) < n.den c.ρ := by
    have := of_decide_eq_true h3
    rw [he] at this; exact this
  cases ha : aggSz P t with
  | none => rw [ha] at h2; exact (R.gives_fail (s := "load") h2).elim
  | some k =>
    rw [ha] at h2
    rcases aggSz_some ha with ⟨k, rfl, g1, g2⟩ | ⟨rfl, g1, _⟩
    · obtain ⟨h4, rfl⟩ := R.gives_opt (show (R.opt "load a row" ((takeE k (dropN f ls)).map fun l => V.agg (leafVs a e l f))).gives c.ρ m p1 v q from h2)
      obtain ⟨ls', h5, rfl⟩ := Option.map_eq_some_iff.1 h4
      rw [dropN_eq] at h5
      obtain ⟨h6, h7⟩ := takeE_eq h5
      have hlen : (leafVs a e ls' f).length = k := by
        have key : ∀ (l : List Lf) (r : Nat), (leafVs a e l r).length = l.length := by
          intro l
          induction l with
          | nil => intro r; rfl
          | cons x l ih => intro r; show (leafVs a e l (r + 1)).length + 1 = _; rw [ih]; rfl
        rw [key, h7]
      obtain ⟨xs, k1, k2⟩ := loadCells_of (P := P) (c := c) (w := w) (i := i) (o := j * sz + f) hlen fun jj hjj => by
        have hl : ls'[jj]? = some ls'[jj] := List.getElem?_eq_getElem (by omega)
        have hl' : ls[f + jj]? = some ls'[jj] := by
          have : ls'[jj]? = (ls.drop f)[jj]? := by rw [h6, List.getElem?_take_of_lt hjj]
          rw [← hl, this, List.getElem?_drop]
        obtain ⟨x, hx, hr⟩ := row_cell hm hb hlt hl'
        refine ⟨leafV a e ls'[jj] (f + jj), x, by rw [leafVs_get, hl]; rfl, ?_, leafV_ok he hr⟩
        rw [Cx.ad_add, ← hx, h0]; congr 2; omega
      exact ⟨rfl, .agg xs, by simp [loadVar, run_agg g1, run_size g2, k1], VR.agg.2 ⟨xs, rfl, k2⟩⟩
    · obtain ⟨h4, rfl⟩ := R.gives_opt (show (R.opt "load a row" ((nth f ls).map fun l => leafV a e l f)).gives c.ρ m p1 v q from h2)
      obtain ⟨l, h5, rfl⟩ := Option.map_eq_some_iff.1 h4
      rw [nth_eq] at h5
      obtain ⟨x, hx, hr⟩ := row_cell hm hb hlt h5
      rw [h0] at hx
      exact ⟨rfl, x, by simp only [loadVar, Sem.run_bind, run_agg g1, Result.andThen_ok, Bool.false_eq_true, if_false, run_load, hx], leafV_ok he hr⟩

theorem loadPtr_ok (hm : MemR c m w) (hp : PcR c.ρ p) {t : TypeId} {a v : V} {x : Value} (ha : VR c a x) (h : (loadPtr P t a).gives c.ρ m p v q) :
    q = p ∧ ∃ i o, x = .pointer (some (c.ad i o)) ∧ ∃ y, (loadVar t (c.ad i o)).run P w = .ok y w ∧ VR c v y := by
  unfold loadPtr at h
  rcases onPtr_cases a (loadV P t) (loadX P t a) with ⟨i, o, rfl, he⟩ | he <;> rw [he] at h
  · obtain ⟨_, rfl⟩ := VR.ptr.1 ha
    obtain ⟨rfl, y, h1, h2⟩ := loadV_ok hm h
    exact ⟨rfl, i, o, rfl, y, h1, h2⟩
  · cases a <;> try exact (R.gives_fail (s := "load no address") h).elim
    case sptr i sz e f =>
      obtain ⟨_, j, h1, rfl⟩ := VR.sptr.1 ha
      obtain ⟨v0, p0, h4, h5⟩ := R.gives_bnd (show ((loadS P t i sz e f).bnd knR).gives c.ρ m p v q from h)
      obtain ⟨rfl, y, h2, h3⟩ := loadS_ok hm hp h1 h4
      have h5 := Option.some.inj (show some (⟨knV p0 v0, p0⟩ : Rp V) = some ⟨v, q⟩ from h5)
      obtain ⟨rfl, rfl⟩ : knV p0 v0 = v ∧ p0 = q := ⟨congrArg Rp.v h5, congrArg Rp.p h5⟩
      replace h3 := knV_ok hp h3
      exact ⟨rfl, i, _, rfl, y, h2, h3⟩

/-- part of an aggregate -/
theorem partV_ok {t : TypeId} {l : List V} {off : Nat} {v : V} {xs : Array Value} (hl : VRs c l xs.toList) (h : partV P t l off = some v) :
    ∃ x, (part t xs off).run P w = .ok x w ∧ VR c v x := by
  unfold partV at h
  cases ha : aggSz P t with
  | none => rw [ha] at h; simp at h
  | some a =>
    rw [ha] at h
    rcases aggSz_some ha with ⟨n, rfl, h1, h2⟩ | ⟨rfl, h1, _⟩
    · have h : (takeE n (dropN off l)).map .agg = some v := h
      rw [dropN_eq] at h
      obtain ⟨r, h3, rfl⟩ := Option.map_eq_some_iff.1 h
      obtain ⟨h4, h5⟩ := takeE_eq h3
      refine ⟨.agg (xs.extract off (off + n)), by simp [part, run_agg h1, run_size h2], VR.agg.2 ⟨_, rfl, ?_⟩⟩
      have hlen := hl.length
      have h6 : off + n ≤ l.length ∨ n = 0 := by
        rw [h4] at h5; simp at h5; omega
      refine VRs.of_get ?_ fun j u hu => ?_
      · simp at hlen ⊢; omega
      · rw [h4, List.getElem?_take] at hu
        split at hu
        · rename_i hj
          rw [List.getElem?_drop] at hu
          obtain ⟨x, hx, hr⟩ := hl.get hu
          exact ⟨x, by simp [hj]; simpa using hx, hr⟩
        · simp at hu
    · have h : nth off l = some v := h
      rw [nth_eq] at h
      obtain ⟨x, hx, hr⟩ := hl.get h
      exact ⟨x, by simp [part, run_agg h1]; simp at hx; simp [hx], hr⟩
end mem

end Go.Sy

/-
  What is proved here: the evaluator's operators on numbers and strings, and its '==', do what the model's do.
  Conditions: none.
-/
namespace Go.Sy

/-! ### numbers -/

theorem limN_two (k : IntKind) : ∃ e, limN k = 2 ^ e ∧ e ≤ k.bits := by
  cases k
  · exact ⟨7, rfl, by decide⟩
  · exact ⟨15, rfl, by decide⟩
  · exact ⟨31, rfl, by decide⟩
  · exact ⟨63, rfl, by decide⟩
  · exact ⟨8, rfl, by decide⟩
  · exact ⟨16, rfl, by decide⟩
  · exact ⟨32, rfl, by decide⟩
  · exact ⟨64, rfl, by decide⟩

theorem wrap_nat (k : IntKind) (n : Nat) (h : n < limN k) : k.wrap (n : Int) = n :=
  wrap_in k n (by cases k <;> simp [kMin, IntKind.signed, limN]) (by simp only [kMax]; omega)

theorem ofInt_nat (k : IntKind) (a : Nat) (h : a < limN k) : (BitVec.ofInt k.bits (a : Int)).toNat = a := by
  obtain ⟨e, he, hb⟩ := limN_two k
  have : a < 2 ^ k.bits := Nat.lt_of_lt_of_le (he ▸ h) (Nat.pow_le_pow_right (by omega) hb)
  simp [Nat.mod_eq_of_lt this]

theorem bitsN_eq (op : BinOp) (k : IntKind) (a b : Nat) (ha : a < limN k) (hb : b < limN k) : bitsZ op k a b = (bitsN op a b : Nat) := by
  obtain ⟨e, he, _⟩ := limN_two k
  have ea := ofInt_nat k a ha
  have eb := ofInt_nat k b hb
  have hand : a &&& b < limN k := Nat.lt_of_le_of_lt Nat.and_le_left ha
  have hxor : ∀ x y : Nat, x < limN k → y < limN k → x ^^^ y < limN k := fun x y hx hy => by rw [he] at hx hy ⊢; exact Nat.xor_lt_two_pow hx hy
  have hor : a ||| b < limN k := by rw [he] at ha hb ⊢; exact Nat.or_lt_two_pow ha hb
  have hnot : ∀ x y : BitVec k.bits, x &&& ~~~y = x ^^^ (x &&& y) := fun x y => by
    apply BitVec.eq_of_getLsbD_eq
    intro i hi
    simp only [BitVec.getLsbD_and, BitVec.getLsbD_not, BitVec.getLsbD_xor, hi, decide_true, Bool.true_and]
    cases x.getLsbD i <;> cases y.getLsbD i <;> rfl
  have rest : bitsZ .andNot k a b = ((a ^^^ (a &&& b) : Nat) : Int) := by
    show k.wrap ((BitVec.ofInt k.bits a &&& ~~~BitVec.ofInt k.bits b).toNat : Int) = _
    rw [hnot, BitVec.toNat_xor, BitVec.toNat_and, ea, eb]
    exact wrap_nat k _ (hxor _ _ ha hand)
  cases op
  case and => show k.wrap _ = _; rw [BitVec.toNat_and, ea, eb]; exact wrap_nat k _ hand
  case or => show k.wrap _ = _; rw [BitVec.toNat_or, ea, eb]; exact wrap_nat k _ hor
  case xor => show k.wrap _ = _; rw [BitVec.toNat_xor, ea, eb]; exact wrap_nat k _ (hxor _ _ ha hb)
  all_goals exact rest

theorem bitsF_eq (op : BinOp) (k : IntKind) (x y : Int) : bitsF op k x y = bitsZ op k x y := by
  cases x with
  | negSucc a => rfl
  | ofNat a =>
    cases y with
    | negSucc b => rfl
    | ofNat b =>
      show (Bool.rec (bitsZ op k (Int.ofNat a) (Int.ofNat b)) (Int.ofNat (bitsN op a b)) (andB (Nat.blt a (limN k)) (Nat.blt b (limN k))) : Int) = _
      cases h : andB (Nat.blt a (limN k)) (Nat.blt b (limN k))
      · rfl
      · simp only [andB_eq, Bool.and_eq_true, blt_iff] at h
        exact (bitsN_eq op k a b h.1 h.2).symm

theorem bitsZ_range (op : BinOp) (k : IntKind) (x y : Int) : kMin k ≤ bitsZ op k x y ∧ bitsZ op k x y ≤ kMax k := by
  cases op <;> exact ⟨wrap_lo k _, wrap_hi k _⟩

theorem shlZ_eq (k : IntKind) (x y : Int) : shlZ k x y = k.wrap (x * 2 ^ (min y.toNat k.bits)) := by
  cases x with
  | negSucc a => rfl
  | ofNat a =>
    show wrapZ k (Int.ofNat (a * 2 ^ (min y.toNat k.bits))) = _
    rw [wrapZ_eq]; congr 1

theorem shrZ_eq (k : IntKind) (x y : Int) : shrZ k x y = x.fdiv (2 ^ (min y.toNat k.bits)) := by
  cases x with
  | negSucc a => rfl
  | ofNat a =>
    show Int.ofNat (a / 2 ^ (min y.toNat k.bits)) = _
    rw [Int.fdiv_eq_ediv_of_nonneg _ (Int.pow_nonneg (by omega))]
    simp

theorem kMin_le (k : IntKind) : kMin k ≤ 0 := by cases k <;> simp [kMin, IntKind.signed, limN]
theorem kMax_ge (k : IntKind) : 0 ≤ kMax k := by cases k <;> simp [kMax, limN]

theorem binZ_range (op : BinOp) (k : IntKind) (x y : Int) (h0 : kMin k ≤ x) (h1 : x ≤ kMax k) : kMin k ≤ binZ op k x y ∧ binZ op k x y ≤ kMax k := by
  have hmin := kMin_le k
  have hmax := kMax_ge k
  have hw : ∀ z, kMin k ≤ wrapZ k z ∧ wrapZ k z ≤ kMax k := fun z => by rw [wrapZ_eq]; exact ⟨wrap_lo k z, wrap_hi k z⟩
  have hb : ∀ op, kMin k ≤ bitsF op k x y ∧ bitsF op k x y ≤ kMax k := fun op => by rw [bitsF_eq]; exact bitsZ_range op k x y
  cases op
  case add => exact hw _
  case sub => exact hw _
  case mul => exact hw _
  case quo => exact hw _
  case rem =>
    show kMin k ≤ x.tmod y ∧ x.tmod y ≤ kMax k
    rcases Int.le_total 0 x with hx | hx
    · have a := Int.tmod_nonneg y hx
      have b : x.tmod y ≤ x := by
        have h := Int.natAbs_tmod x y
        have : x.natAbs % y.natAbs ≤ x.natAbs := Nat.mod_le _ _
        omega
      omega
    · have h := Int.natAbs_tmod x y
      have h' : x.natAbs % y.natAbs ≤ x.natAbs := Nat.mod_le _ _
      have a : x.tmod y ≤ 0 := by
        have := Int.tmod_nonneg y (show 0 ≤ -x by omega)
        rw [Int.neg_tmod] at this; omega
      omega
  case and => exact hb _
  case or => exact hb _
  case xor => exact hb _
  case andNot => exact hb _
  case shl => show kMin k ≤ shlZ k x y ∧ shlZ k x y ≤ kMax k; rw [shlZ_eq]; exact ⟨wrap_lo k _, wrap_hi k _⟩
  case shr =>
    show kMin k ≤ shrZ k x y ∧ shrZ k x y ≤ kMax k
    rw [shrZ_eq, Int.fdiv_eq_ediv_of_nonneg _ (Int.pow_nonneg (by omega))]
    have hp : (1 : Int) ≤ 2 ^ (min y.toNat k.bits) := by exact_mod_cast Nat.one_le_two_pow
    generalize (2 : Int) ^ (min y.toNat k.bits) = d at *
    rcases Int.le_total 0 x with hx | hx
    · have := Int.ediv_nonneg hx (show 0 ≤ d by omega)
      have := Int.ediv_le_self d hx
      omega
    · have a : x / d ≤ 0 := by
        have := Int.ediv_le_ediv (show 0 < d by omega) hx
        simpa using this
      have b : x ≤ x / d := by
        rw [Int.le_ediv_iff_mul_le (by omega)]
        have := Int.mul_le_mul_of_nonneg_left hp (show 0 ≤ -x by omega)
        simp only [Int.neg_mul, Int.mul_one] at this
        omega
      omega
  all_goals exact ⟨hmin, hmax⟩

theorem mkBin_den (ρ : Nat → Int) (op : BinOp) (k : IntKind) (a b : E) : (mkBin op k a b).den ρ = binZ op k (a.den ρ) (b.den ρ) := by
  unfold mkBin
  cases a <;> try rfl
  cases b <;> rfl

section ops
variable {P : Program} {c : Cx} {m : Mem} {w : World} {p q : Pc}

theorem VR.mkInt {k : IntKind} {op : BinOp} {a b : E} (h0 : kMin k ≤ a.den c.ρ) (h1 : a.den c.ρ ≤ kMax k) : VR c (.int k (mkBin op k a b)) (.int k (binZ op k (a.den c.ρ) (b.den c.ρ))) :=
  VR.int.2 ⟨by rw [mkBin_den], by rw [mkBin_den]; exact binZ_range op k _ _ h0 h1⟩

theorem canR_ok (hp : PcR c.ρ p) {op : BinOp} {k : IntKind} {a b : E} {v : V} (h0 : kMin k ≤ a.den c.ρ) (h1 : a.den c.ρ ≤ kMax k) (h : (canR k (mkBin op k a b)).gives c.ρ m p v q) :
    q = p ∧ VR c v (.int k (binZ op k (a.den c.ρ) (b.den c.ρ))) := by
  have hm : (mkCan k (mkBin op k a b)).gives c.ρ m p v q → q = p ∧ VR c v (.int k (binZ op k (a.den c.ρ) (b.den c.ρ))) := fun h => by
    have h := (show (T.ret (⟨.int k (canon p.rng (mkBin op k a b)), p⟩ : Rp V)).out c.ρ = some ⟨v, q⟩ from h)
    have h := Option.some.inj h
    obtain ⟨rfl, rfl⟩ : V.int k (canon p.rng (mkBin op k a b)) = v ∧ p = q := ⟨congrArg Rp.v h, congrArg Rp.p h⟩
    exact ⟨rfl, VR.int.2 ⟨by rw [canon_den hp.rng, mkBin_den], by rw [canon_den hp.rng, mkBin_den]; exact binZ_range op k _ _ h0 h1⟩⟩
  unfold canR at h
  rcases onN_cases (mkBin op k a b) (fun _ => R.pure (V.int k (mkBin op k a b))) (mkCan k (mkBin op k a b)) with ⟨z, _, he⟩ | he <;> rw [he] at h
  · obtain ⟨rfl, rfl⟩ := R.gives_pure h
    exact ⟨rfl, VR.mkInt h0 h1⟩
  · exact hm h

/-- the operators on two numbers of one kind -/
theorem intOp_ok (hp : PcR c.ρ p) {op : BinOp} {k : IntKind} {t : TypeId} {a b : E} {v : V} (h0 : kMin k ≤ a.den c.ρ) (h1 : a.den c.ρ ≤ kMax k)
    (h : (intOp op k a b).gives c.ρ m p v q) : PcR c.ρ q ∧ ∃ z, (binOp op t (.int k (a.den c.ρ)) (.int k (b.den c.ρ))).run P w = .ok z w ∧ VR c v z := by
  have har : ∀ {op : BinOp}, (arith op k a b).gives c.ρ m p v q → (binOp op t (.int k (a.den c.ρ)) (.int k (b.den c.ρ))) = pure (.int k (binZ op k (a.den c.ρ) (b.den c.ρ))) →
      PcR c.ρ q ∧ ∃ z, (binOp op t (.int k (a.den c.ρ)) (.int k (b.den c.ρ))).run P w = .ok z w ∧ VR c v z := by
    intro op h he
    obtain ⟨rfl, rfl⟩ := R.gives_pure h
    exact ⟨hp, _, by rw [he]; rfl, VR.mkInt h0 h1⟩
  have harC : ∀ {op : BinOp}, (arithC op k a b).gives c.ρ m p v q → (binOp op t (.int k (a.den c.ρ)) (.int k (b.den c.ρ))) = pure (.int k (binZ op k (a.den c.ρ) (b.den c.ρ))) →
      PcR c.ρ q ∧ ∃ z, (binOp op t (.int k (a.den c.ρ)) (.int k (b.den c.ρ))).run P w = .ok z w ∧ VR c v z := by
    intro op h he
    obtain ⟨rfl, hv⟩ := canR_ok hp h0 h1 h
    exact ⟨hp, _, by rw [he]; rfl, hv⟩
  have hdiv : ∀ {op : BinOp}, (divide op k a b).gives c.ρ m p v q → (b.den c.ρ ≠ 0 → (binOp op t (.int k (a.den c.ρ)) (.int k (b.den c.ρ))) = pure (.int k (binZ op k (a.den c.ρ) (b.den c.ρ)))) →
      PcR c.ρ q ∧ ∃ z, (binOp op t (.int k (a.den c.ρ)) (.int k (b.den c.ρ))).run P w = .ok z w ∧ VR c v z := by
    intro op h he
    obtain ⟨u, p1, h2, h3⟩ := R.gives_bnd h
    obtain ⟨h4, h5⟩ := decR_gives hp h2
    cases u
    · obtain ⟨rfl, hv⟩ := canR_ok h5 h0 h1 (show (canR k (mkBin op k a b)).gives c.ρ m p1 v q from h3)
      rw [mkEq_den] at h4
      exact ⟨h5, _, by rw [he (by simpa [E.den] using h4)]; rfl, hv⟩
    · exact (R.gives_fail h3).elim
  have hcmp : ∀ {op : BinOp}, (compared op k a b).gives c.ρ m p v q → op = .eql ∨ op = .neq ∨ op = .lss ∨ op = .leq ∨ op = .gtr ∨ op = .geq →
      (binOp op t (.int k (a.den c.ρ)) (.int k (b.den c.ρ))) = pure (.bool (cmpZ op (a.den c.ρ) (b.den c.ρ))) →
      PcR c.ρ q ∧ ∃ z, (binOp op t (.int k (a.den c.ρ)) (.int k (b.den c.ρ))).run P w = .ok z w ∧ VR c v z := by
    intro op h hop he
    obtain ⟨rfl, rfl⟩ := R.gives_pure h
    exact ⟨hp, _, by rw [he]; rfl, VR.bool.2 (by rw [mkCmp_den _ _ _ _ hop])⟩
  cases op
  case add => exact harC h (by simp [binOp, Op.intArith, binZ, wrapZ_eq])
  case sub => exact har h (by simp [binOp, Op.intArith, binZ, wrapZ_eq, Int.sub_eq_add_neg]; rfl)
  case mul => exact harC h (by simp [binOp, Op.intArith, binZ, wrapZ_eq])
  case and => exact harC h (by simp [binOp, Op.intBits, binZ, bitsF_eq, bitsZ])
  case or => exact harC h (by simp [binOp, Op.intBits, binZ, bitsF_eq, bitsZ])
  case xor => exact har h (by simp [binOp, Op.intBits, binZ, bitsF_eq, bitsZ])
  case andNot => exact harC h (by simp [binOp, Op.intBits, binZ, bitsF_eq, bitsZ])
  case quo => exact hdiv h (fun hb => by simp [binOp, Op.intDiv, hb, binZ, wrapZ_eq])
  case rem => exact hdiv h (fun hb => by simp [binOp, Op.intDiv, hb, binZ])
  case eql => exact hcmp h (by simp) (by simp [binOp, Op.intCmp, cmpZ])
  case neq => exact hcmp h (by simp) (by simp [binOp, Op.intCmp, cmpZ])
  case lss => exact hcmp h (by simp) (by simp [binOp, Op.intCmp, cmpZ])
  case leq => exact hcmp h (by simp) (by simp [binOp, Op.intCmp, cmpZ])
  case gtr => exact hcmp h (by simp) (by simp [binOp, Op.intCmp, cmpZ])
  case geq => exact hcmp h (by simp) (by simp [binOp, Op.intCmp, cmpZ])
  case shl => exact (R.gives_fail h).elim
  case shr => exact (R.gives_fail h).elim

theorem splitN_gives {e v : E} : ∀ {n : Nat} {z : Int} {p q : Pc}, PcR c.ρ p → (splitN e n z).gives c.ρ m p v q → v.den c.ρ = e.den c.ρ ∧ PcR c.ρ q
  | 0, z, p, q, hp, h => by
    obtain ⟨rfl, rfl⟩ := R.gives_pure (show (R.pure e).gives c.ρ m p v q from h)
    exact ⟨rfl, hp⟩
  | n + 1, z, p, q, hp, h => by
    obtain ⟨u, p1, h2, h3⟩ := R.gives_bnd h
    obtain ⟨h4, h5⟩ := decR_gives hp h2
    cases u
    · exact splitN_gives h5 (show (splitN e n (Int.add z 1)).gives c.ρ m p1 v q from h3)
    · obtain ⟨rfl, rfl⟩ := R.gives_pure (show (R.pure (E.n z)).gives c.ρ m p1 v q from h3)
      rw [mkEq_den] at h4
      exact ⟨(beq_iff_eq.1 h4).symm, h5⟩

theorem splitE_gives (hp : PcR c.ρ p) {e v : E} (h : (splitE e).gives c.ρ m p v q) : v.den c.ρ = e.den c.ρ ∧ PcR c.ρ q := by
  have hpure : (R.pure e).gives c.ρ m p v q → v.den c.ρ = e.den c.ρ ∧ PcR c.ρ q := fun h => by
    obtain ⟨rfl, rfl⟩ := R.gives_pure h
    exact ⟨rfl, hp⟩
  unfold splitE at h
  rcases onN_cases e (fun _ => R.pure e) (splitS e) with ⟨z, _, he⟩ | he <;> rw [he] at h
  · exact hpure h
  · cases hi : e.iv p.rng with
    | none =>
      have h : (Option.rec (R.pure e m p) (fun r => selB (leZ r.2 (Int.add r.1 40)) (splitN e (Int.toNat (Int.add (Int.sub r.2 r.1) 1)) r.1 m p) (R.pure e m p)) (e.iv p.rng) : T (Rp E)).out c.ρ = some ⟨v, q⟩ := h
      rw [hi] at h
      exact hpure h
    | some r =>
      have h : (Option.rec (R.pure e m p) (fun r => selB (leZ r.2 (Int.add r.1 40)) (splitN e (Int.toNat (Int.add (Int.sub r.2 r.1) 1)) r.1 m p) (R.pure e m p)) (e.iv p.rng) : T (Rp E)).out c.ρ = some ⟨v, q⟩ := h
      rw [hi] at h
      have h : (selB (leZ r.2 (Int.add r.1 40)) (splitN e (Int.toNat (Int.add (Int.sub r.2 r.1) 1)) r.1 m p) (R.pure e m p)).out c.ρ = some ⟨v, q⟩ := h
      cases hb : leZ r.2 (Int.add r.1 40) with
      | true => rw [hb] at h; exact splitN_gives hp h
      | false => rw [hb] at h; exact hpure h

theorem splitIx_ok (hp : PcR c.ρ p) {x ix v : V} {I : Value} (hi : VR c ix I) (h : (splitIx x ix).gives c.ρ m p v q) : PcR c.ρ q ∧ VR c v I := by
  have hpure : (R.pure ix).gives c.ρ m p v q → PcR c.ρ q ∧ VR c v I := fun h => by
    obtain ⟨rfl, rfl⟩ := R.gives_pure h
    exact ⟨hp, hi⟩
  unfold splitIx at h
  cases hk : knownV x with
  | false => rw [hk] at h; exact hpure h
  | true =>
    rw [hk] at h
    have h : (onInt ix (fun k e => (splitE e).bnd fun e => R.pure (V.int k e)) (R.pure ix)).gives c.ρ m p v q := h
    rcases onInt_cases ix (fun k e => (splitE e).bnd fun e => R.pure (V.int k e)) (R.pure ix) with ⟨k, e, rfl, he⟩ | he <;> rw [he] at h
    · obtain ⟨e', p1, h1, h2⟩ := R.gives_bnd h
      obtain ⟨h3, h4⟩ := splitE_gives hp h1
      obtain ⟨rfl, rfl⟩ := R.gives_pure h2
      obtain ⟨rfl, g0, g1⟩ := VR.int.1 hi
      exact ⟨h4, VR.int.2 ⟨by rw [h3], by rw [h3]; exact g0, by rw [h3]; exact g1⟩⟩
    · exact hpure h

theorem shiftR_ok (hp : PcR c.ρ p) {op : BinOp} {k k' : IntKind} {t : TypeId} {a b : E} {v : V} (hop : isShift op = true) (h0 : kMin k ≤ a.den c.ρ) (h1 : a.den c.ρ ≤ kMax k)
    (h : (shiftR op k a b).gives c.ρ m p v q) : PcR c.ρ q ∧ ∃ z, (binOp op t (.int k (a.den c.ρ)) (.int k' (b.den c.ρ))).run P w = .ok z w ∧ VR c v z := by
  obtain ⟨u, p1, h2, h3⟩ := R.gives_bnd h
  obtain ⟨h4, h5⟩ := decR_gives hp h2
  cases u
  · obtain ⟨b', p2, h6, h3⟩ := R.gives_bnd (show ((splitE b).bnd fun b => canR k (mkBin op k a b)).gives c.ρ m p1 v q from h3)
    obtain ⟨h7, h8⟩ := splitE_gives h5 h6
    obtain ⟨rfl, hv⟩ := canR_ok h8 h0 h1 (show (canR k (mkBin op k a b')).gives c.ρ m p2 v q from h3)
    rw [mkLt_den] at h4
    have hb : ¬ b.den c.ρ < 0 := of_decide_eq_false h4
    rw [← h7] at hb ⊢
    refine ⟨h8, _, ?_, hv⟩
    cases op
    case shl => simp [binOp, Op.shift, hb, binZ, shlZ_eq]
    case shr => simp [binOp, Op.shift, hb, binZ, shrZ_eq]
    all_goals exact (Bool.false_ne_true hop).elim
  · exact (R.gives_fail h3).elim
end ops

end Go.Sy

/-
  What is proved here: the evaluator's operators on strings, and its '==' by the type, do what the model's do.
  Conditions: none.
-/
namespace Go.Sy

section strings
variable {P : Program} {c : Cx} {m : Mem} {w : World} {p q : Pc}

theorem BR.nil_iff {bs : List UInt8} : BR c [] bs ↔ bs = [] := by
  unfold BR; cases bs <;> simp

theorem BR.cons_iff {e : E} {l : List E} {bs : List UInt8} : BR c (e :: l) bs ↔ ∃ b r, bs = b :: r ∧ e.den c.ρ = (b.toNat : Int) ∧ BR c l r := by
  unfold BR
  cases bs with
  | nil => simp
  | cons b r =>
    simp only [List.map_cons, List.cons.injEq]
    exact ⟨fun h => ⟨b, r, ⟨rfl, rfl⟩, h.1, h.2⟩, fun ⟨_, _, ⟨e1, e2⟩, h1, h2⟩ => by subst e1 e2; exact ⟨h1, h2⟩⟩

theorem BR.length {l : List E} {bs : List UInt8} (h : BR c l bs) : bs.length = l.length := by
  have := congrArg List.length h; simpa using this.symm

theorem BR.append {l l' : List E} {bs bs' : List UInt8} (h : BR c l bs) (h' : BR c l' bs') : BR c (l ++ l') (bs ++ bs') := by
  unfold BR at *; simp [h, h']

theorem BR.get {l : List E} {bs : List UInt8} {n : Nat} {e : E} (h : BR c l bs) (he : l[n]? = some e) : ∃ b, bs[n]? = some b ∧ e.den c.ρ = (b.toNat : Int) := by
  unfold BR at h
  have h1 : (l.map (E.den c.ρ))[n]? = some (e.den c.ρ) := by simp [he]
  rw [h, List.getElem?_map, Option.map_eq_some_iff] at h1
  obtain ⟨b, hb, hd⟩ := h1
  exact ⟨b, hb, hd.symm⟩

theorem byte_eq {a b : UInt8} : ((a.toNat : Int) = b.toNat) ↔ a = b := by
  rw [Int.natCast_inj, UInt8.toNat_inj]

theorem allE_ok : ∀ {l l' : List E} {p : Pc} {bs bs' : List UInt8} {v : Bool}, PcR c.ρ p → BR c l bs → BR c l' bs' → (allE l l').gives c.ρ m p v q → PcR c.ρ q ∧ v = (bs == bs')
  | [], [], p, bs, bs', v, hp, h1, h2, h => by
    rw [BR.nil_iff] at h1 h2; subst h1 h2
    obtain ⟨rfl, rfl⟩ := R.gives_pure (show (R.pure true).gives c.ρ m p v q from h)
    exact ⟨hp, rfl⟩
  | [], e :: l, p, bs, bs', v, hp, h1, h2, h => by
    rw [BR.nil_iff] at h1; subst h1
    obtain ⟨b, r, rfl, _, _⟩ := BR.cons_iff.1 h2
    obtain ⟨rfl, rfl⟩ := R.gives_pure (show (R.pure false).gives c.ρ m p v q from h)
    exact ⟨hp, rfl⟩
  | e :: l, [], p, bs, bs', v, hp, h1, h2, h => by
    rw [BR.nil_iff] at h2; subst h2
    obtain ⟨b, r, rfl, _, _⟩ := BR.cons_iff.1 h1
    obtain ⟨rfl, rfl⟩ := R.gives_pure (show (R.pure false).gives c.ρ m p v q from h)
    exact ⟨hp, rfl⟩
  | e :: l, e' :: l', p, bs, bs', v, hp, h1, h2, h => by
    obtain ⟨b, r, rfl, hb, hr⟩ := BR.cons_iff.1 h1
    obtain ⟨b', r', rfl, hb', hr'⟩ := BR.cons_iff.1 h2
    obtain ⟨u, p1, h3, h4⟩ := R.gives_bnd h
    obtain ⟨h5, h6⟩ := decR_gives hp h3
    rw [mkEq_den, hb, hb'] at h5
    cases u
    · obtain ⟨rfl, rfl⟩ := R.gives_pure (show (R.pure false).gives c.ρ m p1 v q from h4)
      have : b ≠ b' := fun e => by subst e; simp at h5
      exact ⟨h6, by simp [this]⟩
    · obtain ⟨h7, h8⟩ := allE_ok h6 hr hr' (show (allE l l').gives c.ρ m p1 v q from h4)
      have : b = b' := byte_eq.1 (by simpa using h5)
      exact ⟨h7, by rw [h8, this]; simp⟩

theorem strEq_ok {l l' : List E} {bs bs' : List UInt8} {v : Bool} (hp : PcR c.ρ p) (h1 : BR c l bs) (h2 : BR c l' bs') (h : (strEq l l').gives c.ρ m p v q) : PcR c.ρ q ∧ v = (bs == bs') := by
  rcases R.gives_selB h with ⟨_, h⟩ | ⟨hl, h⟩
  · exact allE_ok hp h1 h2 h
  · obtain ⟨rfl, rfl⟩ := R.gives_pure h
    rw [beq_false, lenL_eq, lenL_eq, ← h1.length, ← h2.length] at hl
    refine ⟨hp, ?_⟩
    symm; rw [beq_eq_false_iff_ne]
    intro e; exact hl (by rw [e])

theorem ltE_ok : ∀ {l l' : List E} {p : Pc} {bs bs' : List UInt8} {v : Bool}, PcR c.ρ p → BR c l bs → BR c l' bs' → (ltE l l').gives c.ρ m p v q → PcR c.ρ q ∧ v = Op.bytesLess bs bs'
  | [], [], p, bs, bs', v, hp, h1, h2, h => by
    rw [BR.nil_iff] at h1 h2; subst h1 h2
    obtain ⟨rfl, rfl⟩ := R.gives_pure (show (R.pure false).gives c.ρ m p v q from h)
    exact ⟨hp, rfl⟩
  | [], e :: l, p, bs, bs', v, hp, h1, h2, h => by
    rw [BR.nil_iff] at h1; subst h1
    obtain ⟨b, r, rfl, _, _⟩ := BR.cons_iff.1 h2
    obtain ⟨rfl, rfl⟩ := R.gives_pure (show (R.pure true).gives c.ρ m p v q from h)
    exact ⟨hp, rfl⟩
  | e :: l, [], p, bs, bs', v, hp, h1, h2, h => by
    rw [BR.nil_iff] at h2; subst h2
    obtain ⟨b, r, rfl, _, _⟩ := BR.cons_iff.1 h1
    obtain ⟨rfl, rfl⟩ := R.gives_pure (show (R.pure false).gives c.ρ m p v q from h)
    exact ⟨hp, by simp [Op.bytesLess]⟩
  | e :: l, e' :: l', p, bs, bs', v, hp, h1, h2, h => by
    obtain ⟨b, r, rfl, hb, hr⟩ := BR.cons_iff.1 h1
    obtain ⟨b', r', rfl, hb', hr'⟩ := BR.cons_iff.1 h2
    obtain ⟨u, p1, h3, h4⟩ := R.gives_bnd h
    obtain ⟨h5, h6⟩ := decR_gives hp h3
    rw [mkLt_den, hb, hb'] at h5
    have hlt : (decide (b < b')) = u := by
      rw [← h5, Bool.eq_iff_iff]; simp [UInt8.lt_iff_toNat_lt]
    cases u
    · have h4 : ((decR (mkEq e e')).bnd fun u => (Bool.rec (R.pure false) (ltE l l') u : R Bool)).gives c.ρ m p1 v q := h4
      obtain ⟨x, p2, h7, h8⟩ := R.gives_bnd h4
      obtain ⟨h9, h10⟩ := decR_gives h6 h7
      rw [mkEq_den, hb, hb'] at h9
      cases x
      · obtain ⟨rfl, rfl⟩ := R.gives_pure (show (R.pure false).gives c.ρ m p2 v q from h8)
        have : b ≠ b' := fun e => by subst e; simp at h9
        exact ⟨h10, by simp [Op.bytesLess, hlt, this]⟩
      · obtain ⟨h11, h12⟩ := ltE_ok h10 hr hr' (show (ltE l l').gives c.ρ m p2 v q from h8)
        have : b = b' := byte_eq.1 (by simpa using h9)
        subst this
        exact ⟨h11, by simp [Op.bytesLess, h12]⟩
    · obtain ⟨rfl, rfl⟩ := R.gives_pure (show (R.pure true).gives c.ρ m p1 v q from h4)
      exact ⟨h6, by simp [Op.bytesLess, hlt]⟩

theorem litB_gives {x : R Bool} {v : V} (h : (litB x).gives c.ρ m p v q) : ∃ u, v = .bool (.lit u) ∧ x.gives c.ρ m p u q := by
  obtain ⟨u, p1, h1, h2⟩ := R.gives_bnd h
  obtain ⟨rfl, rfl⟩ := R.gives_pure h2
  exact ⟨u, rfl, h1⟩

theorem litNB_gives {x : R Bool} {v : V} (h : (litNB x).gives c.ρ m p v q) : ∃ u, v = .bool (.lit (!u)) ∧ x.gives c.ρ m p u q := by
  obtain ⟨u, p1, h1, h2⟩ := R.gives_bnd h
  obtain ⟨rfl, rfl⟩ := R.gives_pure h2
  exact ⟨u, by rw [notB_eq], h1⟩

/-- the operators on two strings -/
theorem strOp_ok (hp : PcR c.ρ p) {op : BinOp} {t : TypeId} {a b : List E} {x y : ByteArray} {v : V} (ha : BR c a x.data.toList) (hb : BR c b y.data.toList)
    (h : (strOp op a b).gives c.ρ m p v q) : PcR c.ρ q ∧ ∃ z, (binOp op t (.string x) (.string y)).run P w = .ok z w ∧ VR c v z := by
  have ex : x.toList = x.data.toList := ByteArray.toList_eq x
  have ey : y.toList = y.data.toList := ByteArray.toList_eq y
  cases op
  case add =>
    obtain ⟨h1, h2⟩ := R.gives_if h
    obtain ⟨rfl, rfl⟩ := R.gives_pure h2
    rw [ble_iff, lenL_eq, lenL_eq, ← ha.length, ← hb.length] at h1
    refine ⟨hp, .string (x ++ y), ?_, VR.str.2 ⟨_, rfl, ?_⟩⟩
    · rw [binOp_string_add]
      refine run_string_add_sum (P := P) (w := w) x y ?_
      have e1 : x.size = x.data.toList.length := by simp
      have e2 : y.size = y.data.toList.length := by simp
      have h1 : x.data.toList.length + y.data.toList.length ≤ 4611686018427387904 := h1
      omega
    · rw [catE_eq]
      have : (x ++ y).data.toList = x.data.toList ++ y.data.toList := by simp
      rw [this]; exact ha.append hb
  case eql =>
    obtain ⟨u, rfl, h1⟩ := litB_gives h
    obtain ⟨h2, rfl⟩ := strEq_ok hp ha hb h1
    exact ⟨h2, _, by rw [binOp_string_eql]; rfl, by rw [ex, ey]; exact VR.lit⟩
  case neq =>
    obtain ⟨u, rfl, h1⟩ := litNB_gives h
    obtain ⟨h2, rfl⟩ := strEq_ok hp ha hb h1
    exact ⟨h2, _, by rw [binOp_string_neq]; rfl, by rw [ex, ey]; exact VR.lit⟩
  case lss =>
    obtain ⟨u, rfl, h1⟩ := litB_gives h
    obtain ⟨h2, rfl⟩ := ltE_ok hp ha hb h1
    exact ⟨h2, _, by rw [binOp_string_lss]; rfl, by rw [ex, ey]; exact VR.lit⟩
  case geq =>
    obtain ⟨u, rfl, h1⟩ := litNB_gives h
    obtain ⟨h2, rfl⟩ := ltE_ok hp ha hb h1
    exact ⟨h2, .bool (!(Op.bytesLess x.data.toList y.data.toList)), by simp [binOp, Op.stringOp, ex, ey], VR.lit⟩
  case gtr =>
    obtain ⟨u, rfl, h1⟩ := litB_gives h
    obtain ⟨h2, rfl⟩ := ltE_ok hp hb ha h1
    exact ⟨h2, .bool (!(Op.bytesLess x.data.toList y.data.toList || x.data.toList == y.data.toList)), by simp [binOp, Op.stringOp, ex, ey], by rw [tri x.data.toList y.data.toList]; exact VR.lit⟩
  case leq =>
    obtain ⟨u, rfl, h1⟩ := litNB_gives h
    obtain ⟨h2, rfl⟩ := ltE_ok hp hb ha h1
    exact ⟨h2, .bool (Op.bytesLess x.data.toList y.data.toList || x.data.toList == y.data.toList), by simp [binOp, Op.stringOp, ex, ey], by rw [tri x.data.toList y.data.toList, Bool.not_not]; exact VR.lit⟩
  all_goals exact (R.gives_fail h).elim
where
  tri : ∀ a b : List UInt8, Op.bytesLess b a = !(Op.bytesLess a b || a == b)
    | [], [] => by simp [Op.bytesLess]
    | [], b :: y => by simp [Op.bytesLess]
    | a :: x, [] => by simp [Op.bytesLess]
    | a :: x, b :: y => by
      simp only [Op.bytesLess, tri x y]
      by_cases h1 : a < b
      · have h2 : ¬ b < a := fun h => by rw [UInt8.lt_iff_toNat_lt] at *; omega
        have h3 : b ≠ a := fun h => by subst h; exact h2 h1
        simp [h1, h2, h3]
      · by_cases h2 : a = b
        · subst h2; simp [h1]
        · have h3 : b < a := by
            rw [UInt8.lt_iff_toNat_lt] at *
            have : a.toNat ≠ b.toNat := fun h => h2 (UInt8.toNat_inj.1 h)
            omega
          simp [h1, h2, h3]
end strings

/-! ### '==' -/

section eq
variable {P : Program} {c : Cx} {m : Mem} {w : World} {p q : Pc}

/-- what '==' of the evaluator's says is what '==' of the model's says, at every depth from n on -/
def EqOk (P : Program) (c : Cx) (m : Mem) (w : World) (n : Nat) (f : TypeId → V → V → R Bool) : Prop :=
  ∀ (t : TypeId) (x y : V) (X Y : Value) (p q : Pc) (v : Bool), PcR c.ρ p → VR c x X → VR c y Y → (f t x y).gives c.ρ m p v q → PcR c.ρ q ∧ ∀ k, n ≤ k → (Op.equalIn k t X Y).run P w = .ok v w

theorem eqFields_ok {n : Nat} {f : TypeId → V → V → R Bool} (hf : EqOk P c m w n f) {xs ys : List V} {Xs Ys : Array Value} (hx : VRs c xs Xs.toList) (hy : VRs c ys Ys.toList) :
    ∀ {fs : List Field} {p : Pc} {v : Bool}, PcR c.ρ p → (eqFields P f xs ys fs).gives c.ρ m p v q → PcR c.ρ q ∧ ∀ k, n ≤ k → (Op.eqFields k Xs Ys fs).run P w = .ok v w
  | [], p, v, hp, h => by
    obtain ⟨rfl, rfl⟩ := R.gives_pure (show (R.pure true).gives c.ρ m p v q from h)
    exact ⟨hp, fun k _ => by simp [Op.eqFields]⟩
  | fd :: fs, p, v, hp, h => by
    have h : (selB (blankF fd) (R.fail "a blank field") ((eqOpt f fd.type (partV P fd.type xs fd.offset) (partV P fd.type ys fd.offset)).bnd fun v => (Bool.rec (R.pure false) (eqFields P f xs ys fs) v : R Bool))).gives c.ρ m p v q := h
    rcases R.gives_selB h with ⟨_, h⟩ | ⟨hb, h⟩
    · exact (R.gives_fail h).elim
    · have hb : ¬ fd.name = "_" := by simpa [blankF] using hb
      obtain ⟨u, p1, h1, h2⟩ := R.gives_bnd h
      unfold eqOpt at h1
      cases ha : partV P fd.type xs fd.offset with
      | none => rw [ha] at h1; exact (R.gives_fail h1).elim
      | some a =>
        rw [ha] at h1
        cases hb' : partV P fd.type ys fd.offset with
        | none => rw [hb'] at h1; exact (R.gives_fail h1).elim
        | some b =>
          rw [hb'] at h1
          have h1 : (f fd.type a b).gives c.ρ m p u p1 := h1
          obtain ⟨A, hA, rA⟩ := partV_ok (w := w) hx ha
          obtain ⟨B, hB, rB⟩ := partV_ok (w := w) hy hb'
          obtain ⟨h3, h4⟩ := hf _ _ _ _ _ _ _ _ hp rA rB h1
          cases u
          · obtain ⟨rfl, rfl⟩ := R.gives_pure (show (R.pure false).gives c.ρ m p1 v q from h2)
            exact ⟨h3, fun k hk => by simp [Op.eqFields, hb, hA, hB, h4 k hk]⟩
          · obtain ⟨h5, h6⟩ := eqFields_ok hf hx hy h3 (show (eqFields P f xs ys fs).gives c.ρ m p1 v q from h2)
            exact ⟨h5, fun k hk => by simp [Op.eqFields, hb, hA, hB, h4 k hk, h6 k hk]⟩

/-- the elements of an array, one by one -/
def eqElemsM (k : Nat) (xs ys : Array Value) (elem n : Nat) : List Nat → Sem Bool
  | [] => pure true
  | i :: l => do
    let a ← part elem xs (i * n)
    let b ← part elem ys (i * n)
    let r ← Op.equalIn k elem a b
    if (!r) = true then pure false else eqElemsM k xs ys elem n l

theorem run_equalIn_arr (d : Nat) (t : TypeId) (len elem n : Nat) (xs ys : Array Value) (ht : P.underlying t = some (.array len elem)) (hs : szOf P elem = some n) :
    (Op.equalIn (d + 1) t (.agg xs) (.agg ys)).run P w = (eqElemsM d xs ys elem n (List.range' 0 len)).run P w := by
  simp only [Op.equalIn, Sem.run_bind, run_und ht, Result.andThen_ok, run_size hs, Std.Legacy.Range.forIn_eq_forIn_range', Std.Legacy.Range.size, Nat.sub_zero, Nat.add_sub_cancel, Nat.div_one]
  generalize List.range' 0 len = l
  clear ht
  induction l generalizing w with
  | nil => simp [eqElemsM]
  | cons i l ih =>
    simp only [List.forIn_cons, eqElemsM, Sem.run_bind, Sem.run_ite]
    generalize (part elem xs (i * n)).run P w = r1
    cases r1 with
    | ok a w1 =>
      simp only [Result.andThen_ok]
      generalize (part elem ys (i * n)).run P w1 = r2
      cases r2 with
      | ok b w2 =>
        simp only [Result.andThen_ok]
        generalize (Op.equalIn d elem a b).run P w2 = r3
        cases r3 with
        | ok r w3 =>
          cases r
          · simp only [Result.andThen_ok, Bool.not_false, if_true, Sem.run_pure]
          · simp only [Result.andThen_ok, Bool.not_true, Bool.false_eq_true, if_false, Sem.run_pure]
            exact ih
        | halt x w3 => simp [Result.andThen]
      | halt x w2 => simp [Result.andThen]
    | halt x w1 => simp [Result.andThen]

theorem eqElems_ok {n : Nat} {f : TypeId → V → V → R Bool} (hf : EqOk P c m w n f) {xs ys : List V} {Xs Ys : Array Value} (hx : VRs c xs Xs.toList) (hy : VRs c ys Ys.toList) {elem sz : Nat} :
    ∀ {len i : Nat} {p : Pc} {v : Bool}, PcR c.ρ p → (eqElems P f xs ys elem sz len i).gives c.ρ m p v q → PcR c.ρ q ∧ ∀ k, n ≤ k → (eqElemsM k Xs Ys elem sz (List.range' i len)).run P w = .ok v w
  | 0, i, p, v, hp, h => by
    obtain ⟨rfl, rfl⟩ := R.gives_pure (show (R.pure true).gives c.ρ m p v q from h)
    exact ⟨hp, fun k _ => by simp [eqElemsM]⟩
  | len + 1, i, p, v, hp, h => by
    have h : ((eqOpt f elem (partV P elem xs (i * sz)) (partV P elem ys (i * sz))).bnd fun v => (Bool.rec (R.pure false) (eqElems P f xs ys elem sz len (i + 1)) v : R Bool)).gives c.ρ m p v q := h
    obtain ⟨u, p1, h1, h2⟩ := R.gives_bnd h
    unfold eqOpt at h1
    cases ha : partV P elem xs (i * sz) with
    | none => rw [ha] at h1; exact (R.gives_fail h1).elim
    | some a =>
      rw [ha] at h1
      cases hb' : partV P elem ys (i * sz) with
      | none => rw [hb'] at h1; exact (R.gives_fail h1).elim
      | some b =>
        rw [hb'] at h1
        have h1 : (f elem a b).gives c.ρ m p u p1 := h1
        obtain ⟨A, hA, rA⟩ := partV_ok (w := w) hx ha
        obtain ⟨B, hB, rB⟩ := partV_ok (w := w) hy hb'
        obtain ⟨h3, h4⟩ := hf _ _ _ _ _ _ _ _ hp rA rB h1
        cases u
        · obtain ⟨rfl, rfl⟩ := R.gives_pure (show (R.pure false).gives c.ρ m p1 v q from h2)
          exact ⟨h3, fun k hk => by simp [List.range'_succ, eqElemsM, hA, hB, h4 k hk]⟩
        · obtain ⟨h5, h6⟩ := eqElems_ok hf hx hy h3 (show (eqElems P f xs ys elem sz len (i + 1)).gives c.ρ m p1 v q from h2)
          exact ⟨h5, fun k hk => by simp [List.range'_succ, eqElemsM, hA, hB, h4 k hk, h6 k hk]⟩
end eq

end Go.Sy

/-
  What is proved here: the evaluator's '==' by the type, and its binary operators, do what the model's do.
  Conditions: none.
-/
namespace Go.Sy

section eq
variable {P : Program} {c : Cx} {m : Mem} {w : World} {p q : Pc}

theorem eqB_eq (a b : Bool) : eqB a b = (a == b) := by cases a <;> cases b <;> rfl

theorem plain_block (hm : MemR c m w) {i : Nat} (h : plainB (m.tr.get i) = true) : ∃ cs t, w.heap[(c.β i).1]? = some (.cells cs t (0, 0)) := by
  cases hb : m.tr.get i with
  | none => rw [hb] at h; exact (Bool.false_ne_true h).elim
  | some b =>
    rw [hb] at h
    cases b with
    | cells l wr pl g =>
      obtain ⟨_, cs, t, fr, h1, _, h3, _⟩ := hm.blk i _ hb
      have : pl = true := h
      rw [h3 this] at h1
      exact ⟨cs, t, h1⟩
    | map => exact (Bool.false_ne_true h).elim
    | siter => exact (Bool.false_ne_true h).elim
    | srow => exact (Bool.false_ne_true h).elim
    | pm => exact (Bool.false_ne_true h).elim
    | rsv => exact (Bool.false_ne_true h).elim
    | lp => exact (Bool.false_ne_true h).elim

theorem run_sameAddr_other {a b : Addr} {cs ds : Array Value} {t u : TypeId} (ha : w.heap[a.block]? = some (.cells cs t (0, 0))) (hb : w.heap[b.block]? = some (.cells ds u (0, 0))) (hne : a.block ≠ b.block) :
    (sameAddr a b).run P w = .ok false w := by
  have fa : ∀ o s, w.frozen? ⟨a.block, o, s⟩ = false := fun o s => by simp [World.frozen?, ha]
  have fb : ∀ o s, w.frozen? ⟨b.block, o, s⟩ = false := fun o s => by simp [World.frozen?, hb]
  have fa' : w.frozen? a = false := fa a.off a.spot
  have fb' : w.frozen? b = false := fb b.off b.spot
  have sa : w.shape? a.block = some (t, cs.size) := by simp [World.shape?, ha]
  have sb : w.shape? b.block = some (u, ds.size) := by simp [World.shape?, hb]
  have hne' : (a.block == b.block) = false := by simpa using hne
  simp [sameAddr, hne', noView, viewAt, mayBeOne, stringish, fa', fb', fa, fb, sa, sb]

theorem eqAddr_ok (hm : MemR c m w) (hp : PcR c.ρ p) {i o j r : Nat} {v : Bool} (h : (eqAddr i o j r).gives c.ρ m p v q) :
    q = p ∧ (sameAddr (c.ad i o) (c.ad j r)).run P w = .ok v w := by
  rcases R.gives_selB h with ⟨he, h⟩ | ⟨he, h⟩
  · obtain ⟨rfl, rfl⟩ := R.gives_pure h
    rw [beq_iff] at he; subst he
    refine ⟨rfl, ?_⟩
    have h1 : ((c.ad i o).block == (c.ad i r).block) = true := by simp [Cx.ad]
    simp only [sameAddr, h1, if_true, Sem.run_pure]
    congr 1
    rw [Bool.eq_iff_iff, beq_iff_eq, beq_iff]
    simp [Cx.ad]
  · rw [beq_false] at he
    have h : T.out c.ρ (selB (andB (plainB (m.tr.get i)) (plainB (m.tr.get j))) (T.ret ⟨false, p⟩) (T.fail "pointers") : T (Rp Bool)) = some ⟨v, q⟩ := h
    cases hc : andB (plainB (m.tr.get i)) (plainB (m.tr.get j)) <;> rw [hc] at h <;> simp [T.out] at h
    obtain ⟨rfl, rfl⟩ := h
    simp only [andB_eq, Bool.and_eq_true] at hc
    obtain ⟨cs, t, h1⟩ := plain_block hm hc.1
    obtain ⟨ds, u, h2⟩ := plain_block hm hc.2
    refine ⟨rfl, run_sameAddr_other (a := c.ad i o) (b := c.ad j r) h1 h2 ?_⟩
    have hx : ∃ b, m.tr.get i = some b := by cases hb : m.tr.get i with
      | none => rw [hb] at hc; exact (Bool.false_ne_true hc.1).elim
      | some b => exact ⟨b, rfl⟩
    have hy : ∃ b, m.tr.get j = some b := by cases hb : m.tr.get j with
      | none => rw [hb] at hc; exact (Bool.false_ne_true hc.2).elim
      | some b => exact ⟨b, rfl⟩
    obtain ⟨b, hb⟩ := hx
    obtain ⟨b', hb'⟩ := hy
    have hpl : ∀ {b : Blk}, plainB (some b) = true → b.plB = true := fun {b} h => by cases b <;> first | exact h | exact (Bool.false_ne_true h).elim
    have hlv : ∀ {b : Blk}, plainB (some b) = true → b.live c := fun {b} h => by cases b <;> first | trivial | exact (Bool.false_ne_true h).elim
    exact hm.inj i j b b' hb hb' he (by rw [hb, hb'] at hc; simp [Blk.apt, hpl hc.1, hpl hc.2]) (by rw [hb] at hc; exact hlv hc.1) (by rw [hb'] at hc; exact hlv hc.2)

theorem eqPtr_ok (hm : MemR c m w) (hp : PcR c.ρ p) {d : Nat} {t elem : TypeId} (ht : P.underlying t = some (.pointer elem)) {x y : V} {X Y : Value} {v : Bool} (hx : VR c x X) (hy : VR c y Y)
    (h : (eqPtr P elem x y).gives c.ρ m p v q) : q = p ∧ (Op.equalIn (d + 1) t X Y).run P w = .ok v w := by
  unfold eqPtr at h
  split at h
  · rw [VR.nilPtr] at hx; subst hx
    split at h
    · rw [VR.nilPtr] at hy; subst hy
      obtain ⟨rfl, rfl⟩ := R.gives_pure h
      exact ⟨rfl, by simp [Op.equalIn, run_und ht]⟩
    · obtain ⟨_, rfl⟩ := VR.ptr.1 hy
      obtain ⟨rfl, rfl⟩ := R.gives_pure h
      exact ⟨rfl, by simp [Op.equalIn, run_und ht]⟩
    · exact (R.gives_fail h).elim
  · obtain ⟨_, rfl⟩ := VR.ptr.1 hx
    split at h
    · rw [VR.nilPtr] at hy; subst hy
      obtain ⟨rfl, rfl⟩ := R.gives_pure h
      exact ⟨rfl, by simp [Op.equalIn, run_und ht]⟩
    · obtain ⟨_, rfl⟩ := VR.ptr.1 hy
      cases hs : posO (szOf P elem) <;> rw [hs] at h
      · exact (R.gives_fail h).elim
      · have ⟨n, hn⟩ : ∃ n, szOf P elem = some (n + 1) := by
          cases hz : szOf P elem with
          | none => rw [hz] at hs; exact (Bool.false_ne_true hs).elim
          | some n => cases n with
            | zero => rw [hz] at hs; exact (Bool.false_ne_true hs).elim
            | succ n => exact ⟨n, rfl⟩
        obtain ⟨rfl, h2⟩ := eqAddr_ok (P := P) hm hp h
        exact ⟨rfl, by simp [Op.equalIn, run_und ht, run_size hn, h2]⟩
    · exact (R.gives_fail h).elim
  · exact (R.gives_fail h).elim

theorem nilSarr_ok {i sz : Nat} {len : E} {X : Value} {v : Bool} (hp : PcR c.ρ p) (hx : VR c (.sarr i sz len) X) (h : (nilSarr i len).gives c.ρ m p v q) : PcR c.ρ q ∧ ∃ a n cap, X = .slice a n cap ∧ a.isNone = v := by
  unfold nilSarr at h
  obtain ⟨_, k, cap, h1, _, h2⟩ := VR.sarr.1 hx
  obtain ⟨u, p1, h3, h4⟩ := R.gives_bnd h
  obtain ⟨h5, h6⟩ := decR_gives hp h3
  rw [mkLt_den, h1] at h5
  cases u with
  | true =>
    obtain ⟨rfl, rfl⟩ := R.gives_pure (show (R.pure false).gives c.ρ m p1 v q from h4)
    have h5 : (0 : Int) < k := of_decide_eq_true h5
    rcases h2 with ⟨_, rfl⟩ | ⟨rfl, _⟩
    · exact ⟨h6, _, k, cap, rfl, rfl⟩
    · simp at h5
  | false =>
    obtain ⟨h7, h8⟩ := decR_gives h6 (show (decR (nilB i)).gives c.ρ m p1 v q from h4)
    have h5 : ¬ (0 : Int) < k := of_decide_eq_false h5
    rcases h2 with ⟨g, _⟩ | ⟨rfl, a, rfl, g⟩
    · omega
    · refine ⟨h8, a, 0, cap, rfl, ?_⟩
      rw [← h7]
      have e : (nilB i).den c.ρ = (clampZ 0 1 (c.ρ (rowVar (i - 4096) 63 0)) == 1) := rfl
      rw [e]
      by_cases h9 : c.ρ (rowVar (i - 4096) 63 0) = 1
      · rw [h9, g.2 h9]; rfl
      · have : a ≠ none := fun h => h9 (g.1 h)
        cases a with
        | none => exact absurd rfl this
        | some a =>
          show false = _
          symm
          rw [beq_eq_false_iff_ne]
          intro h10
          unfold clampZ at h10
          cases hb : andB (leZ 0 (c.ρ (rowVar (i - 4096) 63 0))) (leZ (c.ρ (rowVar (i - 4096) 63 0)) 1) with
          | true => rw [hb] at h10; exact h9 h10
          | false => rw [hb] at h10; exact absurd (show (0 : Int) = 1 from h10) (by omega)

theorem eqNilX_ok {n : Nat} {t e : TypeId} {x y : V} {X Y : Value} {v : Bool} (hp : PcR c.ρ p) (ht : P.underlying t = some (.slice e)) (hx : VR c x X) (hy : VR c y Y)
    (h : (eqNilX x y).gives c.ρ m p v q) : PcR c.ρ q ∧ ∀ d : Nat, n ≤ d → (Op.equalIn (d + 1) t X Y).run P w = .ok v w := by
  unfold eqNilX at h
  cases x <;> try exact (R.gives_fail h).elim
  case sarr i sz len =>
    cases y <;> try exact (R.gives_fail h).elim
    obtain ⟨h1, a, k, cap, rfl, h2⟩ := nilSarr_ok hp hx h
    rw [VR.nilSlice] at hy; subst hy
    refine ⟨h1, fun d _ => ?_⟩
    cases a <;> (rw [← h2]; simp [Op.equalIn, run_und ht])
  case nilSlice =>
    cases y <;> try exact (R.gives_fail h).elim
    obtain ⟨h1, a, k, cap, rfl, h2⟩ := nilSarr_ok hp hy h
    rw [VR.nilSlice] at hx; subst hx
    refine ⟨h1, fun d _ => ?_⟩
    cases a <;> (rw [← h2]; simp [Op.equalIn, run_und ht])

theorem eqNil_ok {d : Nat} {t : TypeId} {x y : V} {X Y : Value} {v : Bool} (hx : VR c x X) (hy : VR c y Y)
    (ht : (∃ e, P.underlying t = some (.slice e) ∧ isSliceV x = true ∧ isSliceV y = true) ∨ (∃ k e, P.underlying t = some (.map k e) ∧ isMapV x = true ∧ isMapV y = true) ∨ (∃ a b e, P.underlying t = some (.func a b e) ∧ isFuncV x = true ∧ isFuncV y = true))
    (h : (eqNil x y).gives c.ρ m p v q) : q = p ∧ (Op.equalIn (d + 1) t X Y).run P w = .ok v w := by
  unfold eqNil at h
  rcases ht with ⟨e, ht, h1, h2⟩ | ⟨k, e, ht, h1, h2⟩ | ⟨a, b, e, ht, h1, h2⟩
  all_goals
    cases x <;> (try exact (Bool.false_ne_true h1).elim) <;> cases y <;> (try exact (Bool.false_ne_true h2).elim)
  all_goals (simp only [nilNo] at h; first | exact (R.gives_fail h).elim | (obtain ⟨rfl, rfl⟩ := R.gives_pure h))
  all_goals simp only [VR.nilSlice, VR.slice, VR.eslice, VR.nilMap, VR.map, VR.nilFunc, VR.func] at hx hy
  · subst hx hy; exact ⟨rfl, by simp [Op.equalIn, run_und ht]⟩
  · obtain ⟨_, cap, _, _, rfl⟩ := hy; subst hx; exact ⟨rfl, by simp [Op.equalIn, run_und ht]⟩
  · obtain ⟨_, o, cap, rfl, _⟩ := hy; subst hx; exact ⟨rfl, by simp [Op.equalIn, run_und ht]⟩
  · obtain ⟨_, cap, _, _, rfl⟩ := hx; subst hy; exact ⟨rfl, by simp [Op.equalIn, run_und ht]⟩
  · obtain ⟨_, o, cap, rfl, _⟩ := hx; subst hy; exact ⟨rfl, by simp [Op.equalIn, run_und ht]⟩
  · subst hx hy; exact ⟨rfl, by simp [Op.equalIn, run_und ht]⟩
  · obtain ⟨_, rfl⟩ := hy; subst hx; exact ⟨rfl, by simp [Op.equalIn, run_und ht]⟩
  · obtain ⟨_, rfl⟩ := hx; subst hy; exact ⟨rfl, by simp [Op.equalIn, run_und ht]⟩
  · obtain ⟨_, _, rfl, _⟩ := hx; subst hy; exact ⟨rfl, by simp [Op.equalIn, run_und ht]⟩
  · obtain ⟨_, _, rfl, _⟩ := hy; subst hx; exact ⟨rfl, by simp [Op.equalIn, run_und ht]⟩
  · subst hx hy; exact ⟨rfl, by simp [Op.equalIn, run_und ht]⟩

theorem eqIface_ok {n d : Nat} (hd : n ≤ d) {f : TypeId → V → V → R Bool} (hf : EqOk P c m w n f) (hp : PcR c.ρ p) {t : TypeId} {ms : Array (String × TypeId)} (ht : P.underlying t = some (.interface ms)) {x y : V} {X Y : Value} {v : Bool}
    (hx : VR c x X) (hy : VR c y Y) (h : (eqIface P f x y).gives c.ρ m p v q) : PcR c.ρ q ∧ (Op.equalIn (d + 1) t X Y).run P w = .ok v w := by
  cases x <;> try exact (R.gives_fail (s := "") h).elim
  case nilIface =>
    rw [VR.nilIface] at hx; subst hx
    cases y <;> try exact (R.gives_fail (s := "") h).elim
    case nilIface =>
      rw [VR.nilIface] at hy; subst hy
      obtain ⟨rfl, rfl⟩ := R.gives_pure (show (R.pure true).gives c.ρ m p v q from h)
      exact ⟨hp, by simp [Op.equalIn, run_und ht]⟩
    case iface u b =>
      obtain ⟨_, rfl, _⟩ := VR.iface.1 hy
      obtain ⟨rfl, rfl⟩ := R.gives_pure (show (R.pure false).gives c.ρ m p v q from h)
      exact ⟨hp, by simp [Op.equalIn, run_und ht]⟩
  case iface tx vx =>
    obtain ⟨A, rfl, rA⟩ := VR.iface.1 hx
    cases y <;> try exact (R.gives_fail (s := "") h).elim
    case nilIface =>
      rw [VR.nilIface] at hy; subst hy
      obtain ⟨rfl, rfl⟩ := R.gives_pure (show (R.pure false).gives c.ρ m p v q from h)
      exact ⟨hp, by simp [Op.equalIn, run_und ht]⟩
    case iface ty vy =>
      obtain ⟨B, rfl, rB⟩ := VR.iface.1 hy
      have h : (cond (Nat.beq tx ty) (cond (comparableT P tx) (f tx vx vy) (R.fail "not comparable")) (R.pure false)).gives c.ρ m p v q := h
      cases hb : Nat.beq tx ty <;> rw [hb] at h
      · obtain ⟨rfl, rfl⟩ := R.gives_pure (show (R.pure false).gives c.ρ m p v q from h)
        rw [beq_false] at hb
        exact ⟨hp, by simp [Op.equalIn, run_und ht, hb]⟩
      · have h5 : (cond (comparableT P tx) (f tx vx vy) (R.fail "not comparable")).gives c.ρ m p v q := h
        clear h
        rw [beq_iff] at hb; subst hb
        cases hc : comparableT P tx <;> rw [hc] at h5
        · exact (R.gives_fail h5).elim
        · have h : (f tx vx vy).gives c.ρ m p v q := h5
          have ⟨i, hi, hcm⟩ : ∃ i, P.info? tx = some i ∧ i.comparable = true := by
            unfold comparableT at hc; split at hc
            · rename_i i hi; exact ⟨i, hi, hc⟩
            · exact (Bool.false_ne_true hc).elim
          obtain ⟨h1, h2⟩ := hf _ _ _ _ _ _ _ _ hp rA rB h
          exact ⟨h1, by simp [Op.equalIn, run_und ht, run_info hi, hcm, h2 d hd]⟩

/-- '==' by the type -/
theorem eqIn_ok (hm : MemR c m w) : ∀ (n : Nat), EqOk P c m w n (eqIn P n)
  | 0 => fun _ _ _ _ _ _ _ _ _ _ _ h => (R.gives_fail h).elim
  | n + 1 => fun t x y X Y p q v hp hx hy h => by
    have ih := eqIn_ok hm n
    have h : (Option.rec (R.fail "") (fun td => eqD td P (eqIn P n) t x y) (P.underlying t) : R Bool).gives c.ρ m p v q := h
    cases ht : P.underlying t with
    | none => rw [ht] at h; exact (R.gives_fail h).elim
    | some td =>
      rw [ht] at h
      have h : (eqD td P (eqIn P n) t x y).gives c.ρ m p v q := h
      have pack : ∀ {Q : Prop}, Q ∧ (∀ d, n ≤ d → (Op.equalIn (d + 1) t X Y).run P w = .ok v w) → Q ∧ ∀ k, n + 1 ≤ k → (Op.equalIn k t X Y).run P w = .ok v w := by
        rintro Q ⟨h1, h2⟩
        exact ⟨h1, fun k hk => by obtain ⟨d, rfl⟩ : ∃ d, k = d + 1 := ⟨k - 1, by omega⟩; exact h2 d (by omega)⟩
      apply pack
      cases td with
      | bool =>
        have h : (eqBool x y).gives c.ρ m p v q := h
        unfold eqBool at h
        rcases onBool_cases x (fun a => onBool y (fun b => (decR a).bnd fun u => (decR b).bnd fun v => R.pure (eqB u v)) (R.fail "")) (R.fail "") with ⟨a, rfl, he⟩ | he <;> rw [he] at h
        · rcases onBool_cases y (fun b => (decR a).bnd fun u => (decR b).bnd fun v => R.pure (eqB u v)) (R.fail "") with ⟨b, rfl, he'⟩ | he' <;> rw [he'] at h
          · obtain ⟨u, p1, h1, h2⟩ := R.gives_bnd h
            obtain ⟨h3, h4⟩ := decR_gives hp h1
            obtain ⟨u', p2, h5, h6⟩ := R.gives_bnd h2
            obtain ⟨h7, h8⟩ := decR_gives h4 h5
            obtain ⟨rfl, rfl⟩ := R.gives_pure h6
            rw [VR.bool, h3] at hx; rw [VR.bool, h7] at hy; subst hx hy
            exact ⟨h8, fun d _ => by simp [Op.equalIn, run_und ht, eqB_eq]⟩
          · exact (R.gives_fail h).elim
        · exact (R.gives_fail h).elim
      | int k0 =>
        have h : (eqInt x y).gives c.ρ m p v q := h
        unfold eqInt at h
        rcases onInt_cases x (fun k a => onInt y (fun k' b => selB (Nat.beq (kindNo k) (kindNo k')) (decR (mkEq a b)) (R.fail "kinds")) (R.fail "")) (R.fail "") with ⟨k, a, rfl, he⟩ | he <;> rw [he] at h
        · rcases onInt_cases y (fun k' b => selB (Nat.beq (kindNo k) (kindNo k')) (decR (mkEq a b)) (R.fail "kinds")) (R.fail "") with ⟨k', b, rfl, he'⟩ | he' <;> rw [he'] at h
          · obtain ⟨h1, h2⟩ := R.gives_if h
            have := kindNo_inj h1; subst this
            obtain ⟨h3, h4⟩ := decR_gives hp h2
            rw [mkEq_den] at h3
            obtain ⟨rfl, _⟩ := VR.int.1 hx
            obtain ⟨rfl, _⟩ := VR.int.1 hy
            exact ⟨h4, fun d _ => by simp [Op.equalIn, run_und ht, h3]⟩
          · exact (R.gives_fail h).elim
        · exact (R.gives_fail h).elim
      | string =>
        have h : (eqStr x y).gives c.ρ m p v q := h
        unfold eqStr at h
        rcases onStr_cases x (fun a => onStr y (fun b => strEq a b) (R.fail "")) (R.fail "") with ⟨a, rfl, he⟩ | he <;> rw [he] at h
        · rcases onStr_cases y (fun b => strEq a b) (R.fail "") with ⟨b, rfl, he'⟩ | he' <;> rw [he'] at h
          · obtain ⟨s, rfl, hs⟩ := VR.str.1 hx
            obtain ⟨s', rfl, hs'⟩ := VR.str.1 hy
            obtain ⟨h1, rfl⟩ := strEq_ok hp hs hs' h
            exact ⟨h1, fun d _ => by rw [run_equalIn_string w d t s s' ht, ByteArray.toList_eq, ByteArray.toList_eq]⟩
          · exact (R.gives_fail h).elim
        · exact (R.gives_fail h).elim
      | pointer e =>
        exact ⟨by obtain ⟨rfl, _⟩ := eqPtr_ok (d := 0) hm hp ht hx hy h; exact hp, fun d _ => (eqPtr_ok hm hp ht hx hy h).2⟩
      | interface ms =>
        exact ⟨(eqIface_ok (Nat.le_refl n) ih hp ht hx hy h).1, fun d hd => (eqIface_ok hd ih hp ht hx hy h).2⟩
      | slice e =>
        have h : (cond (isSliceV x && isSliceV y) (eqNil x y) (eqNilX x y)).gives c.ρ m p v q := h
        cases hc : (isSliceV x && isSliceV y) <;> rw [hc] at h
        · exact eqNilX_ok hp ht hx hy h
        · rw [Bool.and_eq_true] at hc
          exact ⟨by obtain ⟨rfl, _⟩ := eqNil_ok (d := 0) (w := w) hx hy (.inl ⟨e, ht, hc.1, hc.2⟩) h; exact hp, fun d _ => (eqNil_ok hx hy (.inl ⟨e, ht, hc.1, hc.2⟩) h).2⟩
      | map k e =>
        have h : (cond (isMapV x && isMapV y) (eqNil x y) (R.fail "")).gives c.ρ m p v q := h
        cases hc : (isMapV x && isMapV y) <;> rw [hc] at h
        · exact (R.gives_fail h).elim
        · rw [Bool.and_eq_true] at hc
          exact ⟨by obtain ⟨rfl, _⟩ := eqNil_ok (d := 0) (w := w) hx hy (.inr (.inl ⟨k, e, ht, hc.1, hc.2⟩)) h; exact hp, fun d _ => (eqNil_ok hx hy (.inr (.inl ⟨k, e, ht, hc.1, hc.2⟩)) h).2⟩
      | func a b e =>
        have h : (cond (isFuncV x && isFuncV y) (eqNil x y) (R.fail "")).gives c.ρ m p v q := h
        cases hc : (isFuncV x && isFuncV y) <;> rw [hc] at h
        · exact (R.gives_fail h).elim
        · rw [Bool.and_eq_true] at hc
          exact ⟨by obtain ⟨rfl, _⟩ := eqNil_ok (d := 0) (w := w) hx hy (.inr (.inr ⟨a, b, e, ht, hc.1, hc.2⟩)) h; exact hp, fun d _ => (eqNil_ok hx hy (.inr (.inr ⟨a, b, e, ht, hc.1, hc.2⟩)) h).2⟩
      | struct fs =>
        have h : (eqStruct P (eqIn P n) t fs x y).gives c.ρ m p v q := h
        unfold eqStruct at h
        rcases onAgg_cases x (fun xs => onAgg y (fun ys => selB (P.stoodInHeld t) (R.fail "stood in") (eqFields P (eqIn P n) xs ys fs.toList)) (R.fail "")) (R.fail "") with ⟨xs, rfl, he⟩ | he <;> rw [he] at h
        · rcases onAgg_cases y (fun ys => selB (P.stoodInHeld t) (R.fail "stood in") (eqFields P (eqIn P n) xs ys fs.toList)) (R.fail "") with ⟨ys, rfl, he'⟩ | he' <;> rw [he'] at h
          · obtain ⟨Xs, rfl, rX⟩ := VR.agg.1 hx
            obtain ⟨Ys, rfl, rY⟩ := VR.agg.1 hy
            rcases R.gives_selB h with ⟨_, h⟩ | ⟨hs, h⟩
            · exact (R.gives_fail h).elim
            · obtain ⟨h1, h2⟩ := eqFields_ok ih rX rY hp h
              have hfs : P.fieldsOf t = fs := by simp [Program.fieldsOf, ht]
              exact ⟨h1, fun d hd => by rw [run_equalIn_struct w d t Xs Ys (by rw [hfs]; exact ht) hs, hfs]; exact h2 d hd⟩
          · exact (R.gives_fail h).elim
        · exact (R.gives_fail h).elim
      | array len elem =>
        have h : (eqArr P (eqIn P n) len elem x y).gives c.ρ m p v q := h
        unfold eqArr at h
        rcases onAgg_cases x (fun xs => onAgg y (fun ys => (Option.rec (R.fail "") (fun k => eqElems P (eqIn P n) xs ys elem k len 0) (szOf P elem) : R Bool)) (R.fail "")) (R.fail "") with ⟨xs, rfl, he⟩ | he <;> rw [he] at h
        · rcases onAgg_cases y (fun ys => (Option.rec (R.fail "") (fun k => eqElems P (eqIn P n) xs ys elem k len 0) (szOf P elem) : R Bool)) (R.fail "") with ⟨ys, rfl, he'⟩ | he' <;> rw [he'] at h
          · obtain ⟨Xs, rfl, rX⟩ := VR.agg.1 hx
            obtain ⟨Ys, rfl, rY⟩ := VR.agg.1 hy
            cases hs : szOf P elem with
            | none => rw [hs] at h; exact (R.gives_fail h).elim
            | some k =>
              rw [hs] at h
              obtain ⟨h1, h2⟩ := eqElems_ok ih rX rY hp (show (eqElems P (eqIn P n) xs ys elem k len 0).gives c.ρ m p v q from h)
              exact ⟨h1, fun d hd => by rw [run_equalIn_arr d t len elem k Xs Ys ht hs]; exact h2 d hd⟩
          · exact (R.gives_fail h).elim
        · exact (R.gives_fail h).elim
      | _ => exact (R.gives_fail h).elim

theorem run_eqGuard_nil {op : BinOp} {t : TypeId} {xo yo : Operand} (hc : (isConst xo || isConst yo) = true) : (eqGuard op t xo yo .nilIface .nilIface).run P w = .ok () w := by
  cases xo <;> cases yo <;> first | exact (Bool.false_ne_true hc).elim | (cases op <;> simp [eqGuard])

theorem run_eqGuard_agg' {op : BinOp} {t : TypeId} {xo yo : Operand} {a b : Array Value} (h : P.eqGuardType P.depth t = false) : (eqGuard op t xo yo (.agg a) (.agg b)).run P w = .ok () w := by
  cases op <;> simp [eqGuard, h]

/-- the test ahead of '==' passes -/
theorem run_eqGuard_ok {op : BinOp} {t : TypeId} {xo yo : Operand} {X Y : Value} (h1 : ¬ (X = .nilIface ∧ Y = .nilIface ∧ (isConst xo || isConst yo) = false)) (h2 : ∀ a b, X = .agg a → Y = .agg b → P.eqGuardType P.depth t = false) :
    (eqGuard op t xo yo X Y).run P w = .ok () w := by
  have e1 : X = .nilIface → Y = .nilIface → (eqGuard op t xo yo X Y).run P w = .ok () w := by
    rintro rfl rfl
    refine run_eqGuard_nil ?_
    cases hc : (isConst xo || isConst yo) with
    | true => rfl
    | false => exact (h1 ⟨rfl, rfl, hc⟩).elim
  have e2 : ∀ a b, X = .agg a → Y = .agg b → (eqGuard op t xo yo X Y).run P w = .ok () w := by
    rintro a b rfl rfl
    exact run_eqGuard_agg' (h2 a b rfl rfl)
  clear h1 h2
  cases op <;> try rfl
  all_goals cases X <;> try rfl
  all_goals cases Y <;> first | rfl | exact e1 rfl rfl | exact e2 _ _ rfl rfl

/-- the binary operators -/
theorem binR_ok (hm : MemR c m w) (hp : PcR c.ρ p) {op : BinOp} {t : TypeId} {xo yo : Operand} {x y : V} {X Y : Value} {v : V} (hx : VR c x X) (hy : VR c y Y)
    (h : (binR op P t (orB (isConst xo) (isConst yo)) x y).gives c.ρ m p v q) :
    PcR c.ρ q ∧ ∃ z, (do eqGuard op t xo yo X Y; binOp op t X Y : Sem Value).run P w = .ok z w ∧ VR c v z := by
  have other : ∀ {x : V}, VR c x X → x ≠ .bad → (∀ k a, x ≠ .int k a) → (∀ l, x ≠ .str l) → (binEq x op P t (orB (isConst xo) (isConst yo)) y).gives c.ρ m p v q →
      PcR c.ρ q ∧ ∃ z, (do eqGuard op t xo yo X Y; binOp op t X Y : Sem Value).run P w = .ok z w ∧ VR c v z := by
    intro x hx hbad hint hstr h
    rcases R.gives_selB h with ⟨_, h⟩ | ⟨hg, h⟩
    · exact (R.gives_fail h).elim
    · simp only [orB_eq, andB_eq, notB_eq, Bool.or_eq_false_iff] at hg
      have hg1 : ¬ (X = .nilIface ∧ Y = .nilIface ∧ (isConst xo || isConst yo) = false) := by
        rintro ⟨rfl, rfl, hcst⟩
        have h1 : x = .nilIface := by cases x <;> (first | rfl | (exact absurd rfl hbad) | (exfalso; revert hx; unfold VR; simp))
        have h2 : y = .nilIface ∨ y = .bad := by cases y <;> (first | (left; rfl) | (right; rfl) | (exfalso; revert hy; unfold VR; simp))
        subst h1
        rcases h2 with rfl | rfl
        · rw [Bool.or_eq_false_iff] at hcst
          have := hg.1
          simp [isNilIface, hcst] at this
        · -- a value that is not known
          have : op = .eql ∨ op = .neq := by cases op <;> first | exact .inl rfl | exact .inr rfl | exact (R.gives_fail h).elim
          have hno : ∀ u, ¬ (eqIn P 10 t .nilIface .bad).gives c.ρ m p u q := by
            intro u hu
            have hu : (Option.rec (R.fail "") (fun td => eqD td P (eqIn P 9) t .nilIface .bad) (P.underlying t) : R Bool).gives c.ρ m p u q := hu
            cases ht : P.underlying t with
            | none => rw [ht] at hu; exact R.gives_fail hu
            | some td =>
              rw [ht] at hu
              cases td <;> first | exact R.gives_fail (s := "") hu | exact R.gives_fail (s := "slices compared") hu
          rcases this with rfl | rfl
          · obtain ⟨u, _, h1⟩ := litB_gives h; exact hno u h1
          · obtain ⟨u, _, h1⟩ := litNB_gives h; exact hno u h1
      have hg2 : ∀ a b, X = .agg a → Y = .agg b → P.eqGuardType P.depth t = false ∨ y = .bad := by
        rintro a b rfl rfl
        have h1 : isAggV x = true := by cases x <;> (first | rfl | (exact absurd rfl hbad) | (exfalso; revert hx; unfold VR; simp))
        have h2 : y = .bad ∨ isAggV y = true := by cases y <;> (first | (right; rfl) | (left; rfl) | (exfalso; revert hy; unfold VR; simp))
        rcases h2 with h2 | h2
        · exact .inr h2
        · refine .inl ?_
          have := hg.2
          simp only [h1, h2, Bool.true_and, guardT] at this
          exact this
      have hop : ∀ u, (eqIn P 10 t x y).gives c.ρ m p u q → PcR c.ρ q ∧ (Op.equal t X Y).run P w = .ok u w := by
        intro u hu
        obtain ⟨h1, h2⟩ := eqIn_ok hm 10 _ _ _ _ _ _ _ _ hp hx hy hu
        exact ⟨h1, h2 10000 (by omega)⟩
      have hybad : ∀ a, X = .agg a → y = .bad → (eqIn P 10 t x y).gives c.ρ m p = (fun _ _ => False) := by
        rintro a rfl rfl
        have h1 : ∃ l, x = .agg l := by cases x <;> (first | exact ⟨_, rfl⟩ | (exact absurd rfl hbad) | (exfalso; revert hx; unfold VR; simp))
        obtain ⟨l, rfl⟩ := h1
        funext u q'
        simp only [eq_iff_iff, iff_false]
        intro hu
        have hu : (Option.rec (R.fail "") (fun td => eqD td P (eqIn P 9) t (.agg l) .bad) (P.underlying t) : R Bool).gives c.ρ m p u q' := hu
        cases ht : P.underlying t with
        | none => rw [ht] at hu; exact R.gives_fail hu
        | some td =>
          rw [ht] at hu
          cases td <;> first | exact R.gives_fail (s := "") hu | exact R.gives_fail (s := "slices compared") hu
      have hfin : ∀ u, (eqIn P 10 t x y).gives c.ρ m p u q → (eqGuard op t xo yo X Y).run P w = .ok () w := fun u hu =>
        run_eqGuard_ok hg1 fun a b ha hb => (hg2 a b ha hb).resolve_right fun hy => by rw [hybad a ha hy] at hu; exact hu
      have hb1 : binOp .eql t X Y = (do pure (.bool (← Op.equal t X Y))) := by
        cases x <;> first
          | exact absurd rfl hbad
          | exact absurd rfl (hint _ _)
          | exact absurd rfl (hstr _)
          | (revert hx; unfold VR; rintro ⟨_, _, _, _, rfl⟩; rfl)
          | (revert hx; unfold VR; rintro ⟨_, _, _, _, _, (⟨_, rfl⟩ | ⟨_, _, rfl, _⟩)⟩ <;> rfl)
          | (revert hx; unfold VR; rintro ⟨_, _, _, rfl, _⟩; rfl)
          | (revert hx; unfold VR; rintro ⟨_, _, _, rfl⟩; rfl)
          | (revert hx; unfold VR; rintro ⟨_, _, rfl, _⟩; rfl)
          | (revert hx; unfold VR; rintro ⟨_, rfl⟩; rfl)
          | (revert hx; unfold VR; rintro ⟨_, rfl, _⟩; rfl)
          | (revert hx; unfold VR; rintro rfl; rfl)
      have hb2 : binOp .neq t X Y = (do pure (.bool (!(← Op.equal t X Y)))) := by
        cases x <;> first
          | exact absurd rfl hbad
          | exact absurd rfl (hint _ _)
          | exact absurd rfl (hstr _)
          | (revert hx; unfold VR; rintro ⟨_, _, _, _, rfl⟩; rfl)
          | (revert hx; unfold VR; rintro ⟨_, _, _, _, _, (⟨_, rfl⟩ | ⟨_, _, rfl, _⟩)⟩ <;> rfl)
          | (revert hx; unfold VR; rintro ⟨_, _, _, rfl, _⟩; rfl)
          | (revert hx; unfold VR; rintro ⟨_, _, _, rfl⟩; rfl)
          | (revert hx; unfold VR; rintro ⟨_, _, rfl, _⟩; rfl)
          | (revert hx; unfold VR; rintro ⟨_, rfl⟩; rfl)
          | (revert hx; unfold VR; rintro ⟨_, rfl, _⟩; rfl)
          | (revert hx; unfold VR; rintro rfl; rfl)
      cases op <;> try exact (R.gives_fail h).elim
      · obtain ⟨u, rfl, h1⟩ := litB_gives (show (litB (eqIn P 10 t x y)).gives c.ρ m p v q from h)
        obtain ⟨h2, h3⟩ := hop u h1
        exact ⟨h2, .bool u, by simp only [Sem.run_bind, hfin u h1, Result.andThen_ok, hb1, h3, Sem.run_pure], VR.lit⟩
      · obtain ⟨u, rfl, h1⟩ := litNB_gives (show (litNB (eqIn P 10 t x y)).gives c.ρ m p v q from h)
        obtain ⟨h2, h3⟩ := hop u h1
        exact ⟨h2, .bool (!u), by simp only [Sem.run_bind, hfin u h1, Result.andThen_ok, hb2, h3, Sem.run_pure], VR.lit⟩
  cases x with
  | int k a =>
    have h : (binInt op k a y).gives c.ρ m p v q := h
    unfold binInt at h
    obtain ⟨rfl, h0, h1⟩ := VR.int.1 hx
    have hg : (eqGuard op t xo yo (.int k (a.den c.ρ)) Y).run P w = .ok () w := run_eqGuard_ok (by rintro ⟨h, _⟩; cases h) (by rintro _ _ h; cases h)
    rcases onInt_cases y (fun yk b => selB (isShift op) (shiftR op k a b) (selB (Nat.beq (kindNo k) (kindNo yk)) (intOp op k a b) (R.fail "kinds"))) (R.fail "an operator") with ⟨yk, b, rfl, he⟩ | he <;> rw [he] at h
    · obtain ⟨rfl, _, _⟩ := VR.int.1 hy
      rcases R.gives_selB h with ⟨hs, h⟩ | ⟨_, h⟩
      · obtain ⟨h2, z, h3, h4⟩ := shiftR_ok (P := P) (w := w) (t := t) (k' := yk) hp hs h0 h1 h
        exact ⟨h2, z, by simp only [Sem.run_bind, hg, Result.andThen_ok, h3], h4⟩
      · obtain ⟨hk, h6⟩ := R.gives_if h
        have := kindNo_inj hk; subst this
        obtain ⟨h2, z, h3, h4⟩ := intOp_ok (P := P) (w := w) (t := t) hp h0 h1 h6
        exact ⟨h2, z, by simp only [Sem.run_bind, hg, Result.andThen_ok, h3], h4⟩
    · exact (R.gives_fail h).elim
  | str l =>
    have h : (binStr op l y).gives c.ρ m p v q := h
    unfold binStr at h
    obtain ⟨s, rfl, hs⟩ := VR.str.1 hx
    have hg : (eqGuard op t xo yo (.string s) Y).run P w = .ok () w := run_eqGuard_ok (by rintro ⟨h, _⟩; cases h) (by rintro _ _ h; cases h)
    rcases onStr_cases y (fun b => strOp op l b) (R.fail "an operator") with ⟨l', rfl, he⟩ | he <;> rw [he] at h
    · obtain ⟨s', rfl, hs'⟩ := VR.str.1 hy
      obtain ⟨h2, z, h3, h4⟩ := strOp_ok (P := P) (w := w) (t := t) hp hs hs' h
      exact ⟨h2, z, by simp only [Sem.run_bind, hg, Result.andThen_ok, h3], h4⟩
    · exact (R.gives_fail h).elim
  | bad => exact (R.gives_fail h).elim
  | _ => exact other hx (by simp) (by simp) (by simp) h
end eq

end Go.Sy

/-
  What is proved here: the evaluator's unary operators, conversions, fields, indexes, lengths, least and greatest values do what the model's do.
  Conditions: none.
-/
namespace Go.Sy

theorem kMax_eq (k : IntKind) : kMax k = k.max := by cases k <;> rfl

section ops
variable {P : Program} {c : Cx} {m : Mem} {w : World} {p q : Pc}

theorem unR_ok (hp : PcR c.ρ p) {op : UnOp} {x : V} {X : Value} {v : V} (hx : VR c x X) (h : (unR op x).gives c.ρ m p v q) :
    q = p ∧ ∃ z, (Op.unary op X).run P w = .ok z w ∧ VR c v z := by
  cases op
  case neg =>
    obtain ⟨k, e, rfl, h⟩ := onInt_gives (s := "an operator") (show (onInt x (fun k e => R.pure (V.int k (mkBin .sub k (.n 0) e))) (R.fail "an operator")).gives c.ρ m p v q from h)
    · obtain ⟨rfl, rfl⟩ := R.gives_pure h
      obtain ⟨rfl, h0, h1⟩ := VR.int.1 hx
      exact ⟨rfl, .int k (k.wrap (0 - e.den c.ρ)), by simp [Op.unary, Op.intArith], VR.int.2 ⟨by rw [mkBin_den]; show Value.int k (k.wrap (0 - e.den c.ρ)) = .int k (wrapZ k (0 - e.den c.ρ)); rw [wrapZ_eq], by rw [mkBin_den]; exact binZ_range _ k _ _ (kMin_le k) (kMax_ge k)⟩⟩
  case xor =>
    obtain ⟨k, e, rfl, h⟩ := onInt_gives (s := "an operator") (show (onInt x (fun k e => R.pure (V.int k (mkBin .xor k (.n (cond k.signed (-1) (kMax k))) e))) (R.fail "an operator")).gives c.ρ m p v q from h)
    · obtain ⟨rfl, rfl⟩ := R.gives_pure h
      obtain ⟨rfl, h0, h1⟩ := VR.int.1 hx
      have hz : kMin k ≤ cond k.signed (-1) (kMax k) ∧ cond k.signed (-1) (kMax k) ≤ kMax k := by cases k <;> simp [kMin, kMax, IntKind.signed, limN]
      refine ⟨rfl, .int k (bitsZ .xor k (cond k.signed (-1) (kMax k)) (e.den c.ρ)), ?_, VR.int.2 ⟨by rw [mkBin_den]; show _ = Value.int k (bitsF .xor k _ _); rw [bitsF_eq]; rfl, by rw [mkBin_den]; exact binZ_range _ k _ _ hz.1 hz.2⟩⟩
      have : (if k.signed = true then (-1 : Int) else k.max) = cond k.signed (-1) (kMax k) := by rw [kMax_eq]; cases k.signed <;> rfl
      simp [Op.unary, Op.intBits, bitsZ, this]
  case not =>
    obtain ⟨b, rfl, h⟩ := onBool_gives (s := "an operator") (show (onBool x (fun b => R.pure (V.bool (mkNot b))) (R.fail "an operator")).gives c.ρ m p v q from h)
    · obtain ⟨rfl, rfl⟩ := R.gives_pure h
      rw [VR.bool] at hx; subst hx
      exact ⟨rfl, .bool (!b.den c.ρ), by simp [Op.unary], VR.bool.2 (by rw [mkNot_den])⟩
  case plus => exact (R.gives_fail h).elim

/-! ### conversions -/

theorem intT_some {t : TypeId} {k : IntKind} (h : intT P t = some k) : P.underlying t = some (.int k) := by
  unfold intT at h; split at h
  · rename_i h'; simp at h; subst h; exact h'
  · simp at h
theorem isStrT_iff {t : TypeId} (h : isStrT P t = true) : P.underlying t = some .string := by
  unfold isStrT at h; split at h
  · assumption
  · simp at h
theorem isByteT_iff {t : TypeId} (h : isByteT P t = true) : P.underlying t = some (.int .u8) := by
  unfold isByteT at h; split at h
  · assumption
  · simp at h
theorem isMapT_iff {t : TypeId} (h : isMapT P t = true) : ∃ k e, P.underlying t = some (.map k e) := by
  unfold isMapT at h; split at h
  · exact ⟨_, _, by assumption⟩
  · simp at h
theorem hasT_iff {t : TypeId} (h : hasT P t = true) : ∃ d, P.underlying t = some d := by
  unfold hasT at h; split at h
  · exact ⟨_, by assumption⟩
  · simp at h
theorem elemOf_some {t e : TypeId} (h : elemOf P t = some e) : P.underlying t = some (.slice e) := by
  unfold elemOf at h; split at h
  · rename_i h'; simp at h; subst h; exact h'
  · simp at h
theorem ptrElem_some {t e : TypeId} (h : ptrElem P t = some e) : P.underlying t = some (.pointer e) := by
  unfold ptrElem at h; split at h
  · rename_i h'; simp at h; subst h; exact h'
  · simp at h
theorem arrOf_some {t : TypeId} {a : Nat × TypeId × Nat} (h : arrOf P t = some a) : P.underlying t = some (.array a.1 a.2.1) ∧ szOf P a.2.1 = some a.2.2 := by
  unfold arrOf at h; split at h
  · rename_i h'; rw [Option.map_eq_some_iff] at h; obtain ⟨s, hs, rfl⟩ := h; exact ⟨h', hs⟩
  · simp at h
theorem slcOf_some {t : TypeId} {a : TypeId × Nat} (h : slcOf P t = some a) : P.underlying t = some (.slice a.1) ∧ szOf P a.1 = some a.2 := by
  unfold slcOf at h; split at h
  · rename_i h'; rw [Option.map_eq_some_iff] at h; obtain ⟨s, hs, rfl⟩ := h; exact ⟨h', hs⟩
  · simp at h
theorem wantsOf_some {t : TypeId} {ms : Array (String × TypeId)} (h : wantsOf P t = some ms) : P.underlying t = some (.interface ms) := by
  unfold wantsOf at h; split at h
  · rename_i h'; simp at h; subst h; exact h'
  · simp at h
theorem wantsOf_none {t : TypeId} (h : wantsOf P t = none) : ∀ ms, P.underlying t ≠ some (.interface ms) := by
  intro ms hm; unfold wantsOf at h; rw [hm] at h; simp at h

theorem convInt_ok (hp : PcR c.ρ p) {src dst : TypeId} {k : IntKind} (hs : hasT P src = true) (hd : P.underlying dst = some (.int k)) {x v : V} {X : Value} (hx : VR c x X) (h : (convInt k x).gives c.ρ m p v q) :
    q = p ∧ ∃ z, (convert src dst X).run P w = .ok z w ∧ VR c v z := by
  obtain ⟨d, hs⟩ := hasT_iff hs
  have hrun : ∀ (k' : IntKind) (n : Int), (convert src dst (.int k' n)).run P w = .ok (.int k (k.wrap n)) w := fun k' n => by
    simp [convert, run_und hs, run_und hd, Conv.intToInt]
  have hS : ∀ e : E, (mkCvS k e).gives c.ρ m p v q → q = p ∧ VR c v (.int k (k.wrap (e.den c.ρ))) := by
    intro e h
    have hw : VR c (.int k (.cv k e)) (.int k (k.wrap (e.den c.ρ))) := VR.int.2 ⟨rfl, wrap_lo k _, wrap_hi k _⟩
    have hw' : VR c (.int k (canon p.rng (.cv k e))) (.int k (k.wrap (e.den c.ρ))) := VR.int.2 ⟨by rw [canon_den hp.rng]; rfl, by rw [canon_den hp.rng]; exact wrap_lo k _, by rw [canon_den hp.rng]; exact wrap_hi k _⟩
    unfold R.gives mkCvS at h
    split at h
    · rename_i lo hi hiv
      have hin := E.iv_in hp.rng hiv
      cases hc : (leZ (kMin k) lo && leZ hi (kMax k)) <;> simp [hc, T.out] at h
      · obtain ⟨rfl, rfl⟩ := h; exact ⟨rfl, hw'⟩
      · obtain ⟨rfl, rfl⟩ := h
        simp only [Bool.and_eq_true, leZ_iff] at hc
        exact ⟨rfl, VR.int.2 ⟨by rw [wrap_in k _ (by omega) (by omega)], by omega, by omega⟩⟩
    · simp [T.out] at h; obtain ⟨rfl, rfl⟩ := h; exact ⟨rfl, hw⟩
  obtain ⟨k', e, rfl, h⟩ := onInt_gives (s := "convert") (show (onInt x (fun _ e => onN e (fun z => R.pure (V.int k (.n (wrapZ k z)))) (mkCvS k e)) (R.fail "convert")).gives c.ρ m p v q from h)
  · obtain ⟨rfl, _⟩ := VR.int.1 hx
    have h : (onN e (fun z => R.pure (V.int k (.n (wrapZ k z)))) (mkCvS k e)).gives c.ρ m p v q := h
    cases e with
    | n z =>
      obtain ⟨rfl, rfl⟩ := R.gives_pure (show (R.pure (V.int k (.n (wrapZ k z)))).gives c.ρ m p v q from h)
      exact ⟨rfl, _, hrun _ _, VR.int.2 ⟨by simp [E.den, wrapZ_eq], by simp only [E.den, wrapZ_eq]; exact wrap_lo k z, by simp only [E.den, wrapZ_eq]; exact wrap_hi k z⟩⟩
    | x i => obtain ⟨h1, h2⟩ := hS _ h; exact ⟨h1, _, hrun _ _, h2⟩
    | bin => obtain ⟨h1, h2⟩ := hS _ h; exact ⟨h1, _, hrun _ _, h2⟩
    | cv => obtain ⟨h1, h2⟩ := hS _ h; exact ⟨h1, _, hrun _ _, h2⟩
    | rd => obtain ⟨h1, h2⟩ := hS _ h; exact ⟨h1, _, hrun _ _, h2⟩
    | tab => obtain ⟨h1, h2⟩ := hS _ h; exact ⟨h1, _, hrun _ _, h2⟩

theorem bytesOf_ok : ∀ {l : List V} {xs : List Value} {es : List E}, VRs c l xs → bytesOf l = some es → ∃ ns : List Int, xs = ns.map (Value.int .u8) ∧ es.map (E.den c.ρ) = ns ∧ ∀ n ∈ ns, 0 ≤ n ∧ n < 256
  | [], xs, es, h, hb => by
    rw [VRs.nil_iff] at h; subst h
    have hb : some [] = some es := hb
    simp at hb; subst hb
    exact ⟨[], rfl, rfl, by simp⟩
  | v :: l, xs, es, h, hb => by
    obtain ⟨x, ys, rfl, hx, hl⟩ := VRs.cons_iff.1 h
    have hb : (Option.rec none (fun b => Option.rec none (fun r => some (b :: r)) (bytesOf l)) (byteE v) : Option (List E)) = some es := hb
    cases hv : byteE v with
    | none => rw [hv] at hb; simp at hb
    | some e =>
      rw [hv] at hb
      cases hr : bytesOf l with
      | none => rw [hr] at hb; simp at hb
      | some r =>
        rw [hr] at hb
        have hb : some (e :: r) = some es := hb
        simp at hb; subst hb
        obtain ⟨ns, rfl, h2, h3⟩ := bytesOf_ok hl hr
        unfold byteE at hv
        rcases onInt_cases v (fun k e => selB (Nat.beq (kindNo k) 4) (some e) none) none with ⟨k, e', rfl, he⟩ | he <;> rw [he] at hv
        · cases hk : Nat.beq (kindNo k) 4 <;> rw [hk] at hv
          · simp at hv
          · simp at hv; subst hv
            have : k = .u8 := by cases k <;> first | rfl | exact absurd hk (by decide)
            subst this
            obtain ⟨rfl, h4, h5⟩ := VR.int.1 hx
            refine ⟨e'.den c.ρ :: ns, rfl, by simp [h2], fun n hn => ?_⟩
            rcases List.mem_cons.1 hn with rfl | hn
            · have e1 : kMin .u8 = 0 := rfl
              have e2 : kMax .u8 = 255 := rfl
              omega
            · exact h3 n hn
        · simp at hv

theorem foldl_push : ∀ (ns : List Int) (s : ByteArray), (ns.foldl (fun r n => r.push (UInt8.ofNat n.toNat)) s).data.toList = s.data.toList ++ ns.map fun n => UInt8.ofNat n.toNat
  | [], s => by simp
  | n :: ns, s => by
    rw [List.foldl_cons, foldl_push ns]
    simp [ByteArray.push]

theorem convBytes_ok (hm : MemR c m w) {src dst : TypeId} (hd : P.underlying dst = some .string) {x v : V} {X : Value} (hx : VR c x X) (h : (convBytes P src x).gives c.ρ m p v q) :
    q = p ∧ ∃ z, (convert src dst X).run P w = .ok z w ∧ VR c v z := by
  unfold convBytes at h
  cases hs : elemOf P src with
  | none => rw [hs] at h; exact (R.gives_fail h).elim
  | some e =>
    rw [hs] at h
    have hs' := elemOf_some hs
    obtain ⟨he', h'⟩ := R.gives_if (show (selB (isByteT P e) _ (R.fail "convert")).gives c.ρ m p v q from h)
    have he := isByteT_iff he'
    clear hs h he'
    have hs := hs'
    have h := h'
    clear hs' h'
    cases x <;> try exact (R.gives_fail (s := "convert") h).elim
    case nilSlice =>
      rw [VR.nilSlice] at hx; subst hx
      obtain ⟨rfl, rfl⟩ := R.gives_pure (show (R.pure (V.str [])).gives c.ρ m p v q from h)
      exact ⟨rfl, .string .empty, by rw [run_convert_bytes_string w src dst e none 0 0 hs he hd]; simp [Conv.bytesToString], VR.str.2 ⟨_, rfl, by simp [BR]⟩⟩
    case eslice i z =>
      obtain ⟨_, o, cap, rfl, _⟩ := VR.eslice.1 hx
      obtain ⟨rfl, rfl⟩ := R.gives_pure (show (R.pure (V.str [])).gives c.ρ m p v q from h)
      exact ⟨rfl, .string .empty, by rw [run_convert_bytes_string w src dst e _ 0 cap hs he hd, run_bytesToString w _ 0 cap [] (by simpa using run_loadCells (P := P) w (c.ad i o) 0 (fun _ => undef) (fun j hj => by omega))]; rfl, VR.str.2 ⟨_, rfl, by simp [BR]⟩⟩
    case slice i o len cp =>
      obtain ⟨hi, cap, _, _, rfl⟩ := VR.slice.1 hx
      obtain ⟨l, p1, h1, h2⟩ := R.gives_bnd (show ((rdCells i o len).bnd fun l => R.opt "convert bytes" ((bytesOf l).map .str)).gives c.ρ m p v q from h)
      obtain ⟨h3, rfl⟩ := R.gives_opt h2
      obtain ⟨es, h4, rfl⟩ := Option.map_eq_some_iff.1 h3
      obtain ⟨rfl, _, xs, h5, h6, _⟩ := rdCells_ok (P := P) hm h1
      obtain ⟨ns, h7, h8, h9⟩ := bytesOf_ok h6 h4
      have hx : xs = (ns.map (Value.int .u8)).toArray := by apply Array.ext'; simpa using h7
      rw [hx] at h5
      refine ⟨rfl, _, by rw [run_convert_bytes_string w src dst e _ len cap hs he hd, run_bytesToString w _ len cap ns h5], VR.str.2 ⟨_, rfl, ?_⟩⟩
      unfold BR
      rw [foldl_push, h8]
      have : (ByteArray.empty).data.toList = [] := rfl
      rw [this, List.nil_append, List.map_map]
      conv => lhs; rw [← List.map_id ns]
      apply List.map_congr_left
      intro n hn
      have := h9 n hn
      simp
      omega

theorem convR_ok (hm : MemR c m w) (hp : PcR c.ρ p) {src dst : TypeId} {x v : V} {X : Value} (hx : VR c x X) (h : (convR P src dst x).gives c.ρ m p v q) :
    q = p ∧ ∃ z, (convert src dst X).run P w = .ok z w ∧ VR c v z := by
  unfold convR at h
  cases hd : intT P dst with
  | some k =>
    rw [hd] at h
    obtain ⟨h1, h2⟩ := R.gives_if (show (selB (hasT P src) (convInt k x) (R.fail "convert")).gives c.ρ m p v q from h)
    exact convInt_ok hp h1 (intT_some hd) hx h2
  | none =>
    rw [hd] at h
    obtain ⟨h1, h2⟩ := R.gives_if (show (selB (isStrT P dst) (convStr P src x) (R.fail "convert")).gives c.ρ m p v q from h)
    have h1 := isStrT_iff h1
    unfold convStr at h2
    rcases onStr_cases x (fun l => selB (isStrT P src) (R.pure (.str l)) (R.fail "convert")) (convBytes P src x) with ⟨l, rfl, he⟩ | he <;> rw [he] at h2
    · obtain ⟨h3, h4⟩ := R.gives_if h2
      obtain ⟨rfl, rfl⟩ := R.gives_pure h4
      obtain ⟨s, rfl, hs⟩ := VR.str.1 hx
      exact ⟨rfl, .string s, by simp [convert, run_und (isStrT_iff h3), run_und h1], hx⟩
    · exact convBytes_ok hm h1 hx h2

/-! ### fields and elements -/

theorem fieldOf_some {t : TypeId} {f : Nat} {fd : Field} (h : fieldOf P t f = some fd) : ∃ fields, P.underlying t = some (.struct fields) ∧ fields[f]? = some fd := by
  unfold fieldOf at h; split at h
  · exact ⟨_, by assumption, h⟩
  · simp at h

theorem fieldR_ok {t : TypeId} {f : Nat} {x v : V} {X : Value} (hx : VR c x X) (h : (fieldR P t f x).gives c.ρ m p v q) : q = p ∧ ∃ z, (Instr.field t X f).run P w = .ok z w ∧ VR c v z := by
  unfold fieldR at h
  cases hf : fieldOf P t f with
  | none => rw [hf] at h; exact (R.gives_fail h).elim
  | some fd =>
    rw [hf] at h
    obtain ⟨fields, h1, h2⟩ := fieldOf_some hf
    have h : (onAgg x (fun l => R.opt "field" (partV P fd.type l fd.offset)) (R.fail "field")).gives c.ρ m p v q := h
    rcases onAgg_cases x (fun l => R.opt "field" (partV P fd.type l fd.offset)) (R.fail "field") with ⟨l, rfl, he⟩ | he <;> rw [he] at h
    · obtain ⟨xs, rfl, hl⟩ := VR.agg.1 hx
      obtain ⟨h3, rfl⟩ := R.gives_opt h
      obtain ⟨z, h4, h5⟩ := partV_ok (w := w) hl h3
      exact ⟨rfl, z, by simp [Instr.field, run_und h1, h2, asAgg, h4], h5⟩
    · exact (R.gives_fail h).elim

theorem fieldAddrR_ok {t : TypeId} {f : Nat} {x v : V} {X : Value} (hx : VR c x X) (h : (fieldAddrR P t f x).gives c.ρ m p v q) : q = p ∧ ∃ z, (Instr.fieldAt t X f).run P w = .ok z w ∧ VR c v z := by
  unfold fieldAddrR at h
  cases hf : fieldOff P t f with
  | none => rw [hf] at h; exact (R.gives_fail h).elim
  | some d =>
    rw [hf] at h
    unfold fieldOff at hf
    split at hf
    · rename_i fd hfd
      obtain ⟨fields, h1, h2⟩ := fieldOf_some hfd
      cases hs : posO (szOf P fd.type) <;> rw [hs] at hf
      · simp at hf
      · simp at hf; subst hf
        have ⟨n, hn⟩ : ∃ n, szOf P fd.type = some (n + 1) := by
          cases hz : szOf P fd.type with
          | none => rw [hz] at hs; exact (Bool.false_ne_true hs).elim
          | some n => cases n with
            | zero => rw [hz] at hs; exact (Bool.false_ne_true hs).elim
            | succ n => exact ⟨n, rfl⟩
        cases x <;> try exact (R.gives_fail (s := "fieldAddr") h).elim
        case sptr i sz e k =>
          obtain ⟨hi, j, h3, rfl⟩ := VR.sptr.1 hx
          obtain ⟨rfl, rfl⟩ := R.gives_pure (show (R.pure (V.sptr i sz e (Nat.add k fd.offset))).gives c.ρ m p v q from h)
          exact ⟨rfl, .pointer (some ((c.ad i (j * sz + k)).add fd.offset)), by simp [Instr.fieldAt, run_und h1, h2, Instr.sureAddr, fieldPlace, run_size hn], VR.sptr.2 ⟨hi, j, h3, by rw [Cx.ad_add, Nat.add_assoc]; rfl⟩⟩
        case ptr i o =>
          obtain ⟨hi, rfl⟩ := VR.ptr.1 hx
          obtain ⟨rfl, rfl⟩ := R.gives_pure (show (R.pure (V.ptr i (Nat.add o fd.offset))).gives c.ρ m p v q from h)
          exact ⟨rfl, .pointer (some ((c.ad i o).add fd.offset)), by simp [Instr.fieldAt, run_und h1, h2, Instr.sureAddr, fieldPlace, run_size hn], VR.ptr.2 ⟨hi, by rw [Cx.ad_add]; rfl⟩⟩
    · simp at hf

theorem indexN_ok (hp : PcR c.ρ p) {ix : V} {I : Value} {n i : Nat} (hx : VR c ix I) (h : (indexN ix n).gives c.ρ m p i q) : q = p ∧ i < n ∧ ∃ k, I = .int k (i : Int) := by
  unfold indexN at h
  rcases onInt_cases ix (fun _ e => (natR e).bnd fun i => selB (Nat.blt i n) (R.pure i) (R.fail "index out of range")) (R.fail "index") with ⟨k, e, rfl, he⟩ | he <;> rw [he] at h
  · obtain ⟨j, p1, h1, h2⟩ := R.gives_bnd h
    obtain ⟨h3, rfl⟩ := natR_gives hp h1
    obtain ⟨h4, h5⟩ := R.gives_if h2
    obtain ⟨rfl, rfl⟩ := R.gives_pure h5
    obtain ⟨rfl, _⟩ := VR.int.1 hx
    rw [blt_iff] at h4
    exact ⟨rfl, h4, k, by rw [h3]⟩
  · exact (R.gives_fail h).elim

theorem indexAddrR_ok (hp : PcR c.ρ p) {t : TypeId} {x ix v : V} {X I : Value} (hx : VR c x X) (hi : VR c ix I) (h : (indexAddrR P t x ix).gives c.ρ m p v q) :
    q = p ∧ ∃ z, (Instr.indexAt t X I).run P w = .ok z w ∧ VR c v z := by
  cases x <;> try exact (R.gives_fail (s := "indexAddr") h).elim
  case ptr i o =>
    have h : (idxPtr P t i o ix).gives c.ρ m p v q := h
    unfold idxPtr at h
    cases ha : arrOf P t with
    | none => rw [ha] at h; exact (R.gives_fail h).elim
    | some a =>
      rw [ha] at h
      obtain ⟨h1, h2⟩ := arrOf_some ha
      obtain ⟨j, p1, h3, h4⟩ := R.gives_bnd (show ((indexN ix a.1).bnd fun j => R.pure (V.ptr i (Nat.add o (Nat.mul j a.2.2)))).gives c.ρ m p v q from h)
      obtain ⟨rfl, rfl⟩ := R.gives_pure h4
      obtain ⟨rfl, hj, k, rfl⟩ := indexN_ok hp hi h3
      obtain ⟨hb, rfl⟩ := VR.ptr.1 hx
      refine ⟨rfl, .pointer (some ((c.ad i o).add (j * a.2.2))), ?_, VR.ptr.2 ⟨hb, by rw [Cx.ad_add]; rfl⟩⟩
      simp [Instr.indexAt, asIntOf, run_und h1, run_size h2, Instr.sureAddr]
      intro h'; omega
  case sptr i sz e f =>
    have h : (idxSptr P t i sz e f ix).gives c.ρ m p v q := h
    unfold idxSptr at h
    cases ha : arrOf P t with
    | none => rw [ha] at h; exact (R.gives_fail h).elim
    | some a =>
      rw [ha] at h
      obtain ⟨h1, h2⟩ := arrOf_some ha
      obtain ⟨j, p1, h3, h4⟩ := R.gives_bnd (show ((indexN ix a.1).bnd fun j => R.pure (V.sptr i sz e (Nat.add f (Nat.mul j a.2.2)))).gives c.ρ m p v q from h)
      obtain ⟨rfl, rfl⟩ := R.gives_pure h4
      obtain ⟨rfl, hj, k, rfl⟩ := indexN_ok hp hi h3
      obtain ⟨hb, j0, h5, rfl⟩ := VR.sptr.1 hx
      refine ⟨rfl, .pointer (some ((c.ad i (j0 * sz + f)).add (j * a.2.2))), ?_, VR.sptr.2 ⟨hb, j0, h5, by rw [Cx.ad_add, Nat.add_assoc]; rfl⟩⟩
      simp [Instr.indexAt, asIntOf, run_und h1, run_size h2, Instr.sureAddr]
      intro h'; omega
  case sarr i sz len =>
    have h : (idxSarr P t i sz len ix).gives c.ρ m p v q := h
    unfold idxSarr at h
    cases ha : slcOf P t with
    | none => rw [ha] at h; exact (R.gives_fail h).elim
    | some a =>
      rw [ha] at h
      obtain ⟨h1, h2⟩ := slcOf_some ha
      obtain ⟨hsz, h⟩ := R.gives_if (show (selB (Nat.beq a.2 sz) (onInt ix (fun _ e => (mustR (mkNot (mkLt e (.n 0)))).bnd fun _ => (mustR (mkLt e len)).bnd fun _ => sptrR i sz e) (R.fail "index")) (R.fail "index")).gives c.ρ m p v q from h)
      rw [beq_iff] at hsz
      rcases onInt_cases ix (fun _ e => (mustR (mkNot (mkLt e (.n 0)))).bnd fun _ => (mustR (mkLt e len)).bnd fun _ => sptrR i sz e) (R.fail "index") with ⟨k, e, rfl, he⟩ | he <;> rw [he] at h
      · obtain ⟨_, p1, h3, h4⟩ := R.gives_bnd h
        obtain ⟨h5, rfl⟩ := mustR_gives hp h3
        obtain ⟨_, p2, h6, h7⟩ := R.gives_bnd h4
        obtain ⟨h8, rfl⟩ := mustR_gives hp h6
        have h7 := Option.some.inj (show some (⟨V.sptr i sz (litOf p2.rng e) 0, p2⟩ : Rp V) = some ⟨v, q⟩ from h7)
        obtain ⟨rfl, rfl⟩ : V.sptr i sz (litOf p2.rng e) 0 = v ∧ p2 = q := ⟨congrArg Rp.v h7, congrArg Rp.p h7⟩
        rw [mkNot_den, mkLt_den] at h5
        rw [mkLt_den] at h8
        have h5 : ¬ e.den c.ρ < 0 := by
          have : decide (e.den c.ρ < (E.n 0).den c.ρ) = false := by simpa using h5
          exact of_decide_eq_false this
        have h8 := of_decide_eq_true h8
        obtain ⟨j, hj⟩ := Int.eq_ofNat_of_zero_le (show 0 ≤ e.den c.ρ by omega)
        obtain ⟨rfl, _, _⟩ := VR.int.1 hi
        obtain ⟨hb, n, cap, g1, _, g3⟩ := VR.sarr.1 hx
        rw [hj, g1] at h8
        have hjn : j < n := by omega
        rcases g3 with ⟨_, rfl⟩ | ⟨rfl, _, _⟩
        · refine ⟨rfl, .pointer (some ((c.ad i 0).add (j * a.2))), ?_, VR.sptr.2 ⟨hb, j, (litOf_den hp.rng e).trans hj, by rw [Cx.ad_add, hsz]; congr 3; omega⟩⟩
          rw [hj]
          simp [Instr.indexAt, asIntOf, run_und h1, run_size h2]
          intro h'; omega
        · omega
      · exact (R.gives_fail h).elim
  case slice i o len cp =>
    have h : (idxSlice P t i o len ix).gives c.ρ m p v q := h
    unfold idxSlice at h
    cases ha : slcOf P t with
    | none => rw [ha] at h; exact (R.gives_fail h).elim
    | some a =>
      rw [ha] at h
      obtain ⟨h1, h2⟩ := slcOf_some ha
      obtain ⟨j, p1, h3, h4⟩ := R.gives_bnd (show ((indexN ix len).bnd fun j => R.pure (V.ptr i (Nat.add o (Nat.mul j a.2)))).gives c.ρ m p v q from h)
      obtain ⟨rfl, rfl⟩ := R.gives_pure h4
      obtain ⟨rfl, hj, k, rfl⟩ := indexN_ok hp hi h3
      obtain ⟨hb, cap, _, _, rfl⟩ := VR.slice.1 hx
      refine ⟨rfl, .pointer (some ((c.ad i o).add (j * a.2))), ?_, VR.ptr.2 ⟨hb, by rw [Cx.ad_add]; rfl⟩⟩
      simp [Instr.indexAt, asIntOf, run_und h1, run_size h2]
      intro h'; omega

theorem indexR_ok (hp : PcR c.ρ p) {t : TypeId} {x ix v : V} {X I : Value} (hx : VR c x X) (hi : VR c ix I) (h : (indexR P t x ix).gives c.ρ m p v q) :
    q = p ∧ ∃ z, (Instr.index t X I).run P w = .ok z w ∧ VR c v z := by
  unfold indexR at h
  rcases onAgg_cases x (fun l => (Option.rec (R.fail "index") (fun a => (indexN ix a.1).bnd fun j => R.opt "index" (partV P a.2.1 l (Nat.mul j a.2.2))) (arrOf P t) : R V))
    (onStr x (fun l => selB (isStrT P t) ((indexN ix (lenL l)).bnd fun j => R.opt "index" ((nth j l).map (V.int .u8))) (R.fail "index")) (R.fail "index")) with ⟨l, rfl, he⟩ | he <;> rw [he] at h
  · obtain ⟨xs, rfl, hl⟩ := VR.agg.1 hx
    cases ha : arrOf P t with
    | none => rw [ha] at h; exact (R.gives_fail h).elim
    | some a =>
      rw [ha] at h
      obtain ⟨h1, h2⟩ := arrOf_some ha
      obtain ⟨j, p1, h3, h4⟩ := R.gives_bnd (show ((indexN ix a.1).bnd fun j => R.opt "index" (partV P a.2.1 l (Nat.mul j a.2.2))).gives c.ρ m p v q from h)
      obtain ⟨h5, rfl⟩ := R.gives_opt h4
      obtain ⟨rfl, hj, k, rfl⟩ := indexN_ok hp hi h3
      obtain ⟨z, h6, h7⟩ := partV_ok (w := w) hl h5
      have h6 : (part a.2.1 xs (j * a.2.2)).run P w = .ok z w := h6
      exact ⟨rfl, z, by simp [Instr.index, asIntOf, run_und h1, run_size h2, h6]; intro h'; omega, h7⟩
  · rcases onStr_cases x (fun l => selB (isStrT P t) ((indexN ix (lenL l)).bnd fun j => R.opt "index" ((nth j l).map (V.int .u8))) (R.fail "index")) (R.fail "index") with ⟨l, rfl, he'⟩ | he' <;> rw [he'] at h
    · obtain ⟨s, rfl, hs⟩ := VR.str.1 hx
      obtain ⟨ht, h⟩ := R.gives_if h
      have ht := isStrT_iff ht
      obtain ⟨j, p1, h3, h4⟩ := R.gives_bnd h
      obtain ⟨h5, rfl⟩ := R.gives_opt h4
      obtain ⟨rfl, hj, k, rfl⟩ := indexN_ok hp hi h3
      rw [nth_eq] at h5
      obtain ⟨e, h6, rfl⟩ := Option.map_eq_some_iff.1 h5
      obtain ⟨b, h7, h8⟩ := hs.get h6
      have hlt : j < s.size := by
        have := (List.getElem?_eq_some_iff.1 h7).1
        simpa using this
      have hb : s[j]? = some b := by
        rw [ByteArray.getElem?_lt' s j hlt]
        have : s.data.toList[j]? = some s[j] := by
          rw [List.getElem?_eq_getElem (by simpa using hlt)]; rfl
        rw [← this]; exact h7
      refine ⟨rfl, .int .u8 b.toNat, by simp [Instr.index, asIntOf, run_und ht, hb], VR.int.2 ⟨by rw [h8], by rw [h8]; simp [kMin, IntKind.signed], ?_⟩⟩
      rw [h8]; have := b.toNat_lt; simp [kMax, limN]; omega
    · exact (R.gives_fail h).elim

/-! ### lengths, least, greatest -/

theorem VR.intN (n : Nat) (h : (n : Int) ≤ 9223372036854775807) : VR c (intN n) (goInt n) :=
  VR.int.2 ⟨rfl, by simp [E.den, kMin, IntKind.signed, limN], by simp [E.den, kMax, limN]; omega⟩

theorem minMax_ok {lt : Bool} {k : IntKind} : ∀ {l : List V} {a : E} {p : Pc} {xs : List Value} {v : V}, PcR c.ρ p → kMin k ≤ a.den c.ρ → a.den c.ρ ≤ kMax k → VRs c l xs → (minMax lt k l a).gives c.ρ m p v q →
    PcR c.ρ q ∧ ∃ z, (xs.foldlM (if lt then Builtin.min2 else Builtin.max2) (.int k (a.den c.ρ))).run P w = .ok z w ∧ VR c v z
  | [], a, p, xs, v, hp, h0, h1, hl, h => by
    rw [VRs.nil_iff] at hl; subst hl
    obtain ⟨rfl, rfl⟩ := R.gives_pure (show (R.pure (V.int k a)).gives c.ρ m p v q from h)
    exact ⟨hp, _, by simp, VR.int.2 ⟨rfl, h0, h1⟩⟩
  | y :: l, a, p, xs, v, hp, h0, h1, hl, h => by
    obtain ⟨x, ys, rfl, hx, hl'⟩ := VRs.cons_iff.1 hl
    have h : (onInt y (fun k' b => (decR (selB lt (mkLt b a) (mkLt a b))).bnd fun v => selB (Nat.beq (kindNo k) (kindNo k')) (minMax lt k l (selB v b a)) (R.fail "min kinds")) (R.fail "min")).gives c.ρ m p v q := h
    rcases onInt_cases y (fun k' b => (decR (selB lt (mkLt b a) (mkLt a b))).bnd fun v => selB (Nat.beq (kindNo k) (kindNo k')) (minMax lt k l (selB v b a)) (R.fail "min kinds")) (R.fail "min") with ⟨k', b, rfl, he⟩ | he <;> rw [he] at h
    · obtain ⟨u, p1, h2, h3⟩ := R.gives_bnd h
      obtain ⟨h4, h5⟩ := decR_gives hp h2
      obtain ⟨hk, h6⟩ := R.gives_if h3
      have := kindNo_inj hk; subst this
      obtain ⟨rfl, b0, b1⟩ := VR.int.1 hx
      have hs : kMin k ≤ (selB u b a).den c.ρ ∧ (selB u b a).den c.ρ ≤ kMax k := by cases u <;> exact ⟨by assumption, by assumption⟩
      obtain ⟨h7, z, h8, h9⟩ := minMax_ok h5 hs.1 hs.2 hl' h6
      refine ⟨h7, z, ?_, h9⟩
      rw [List.foldlM_cons, Sem.run_bind]
      have hstep : ((if lt then Builtin.min2 else Builtin.max2) (.int k (a.den c.ρ)) (.int k (b.den c.ρ))).run P w = .ok (.int k ((selB u b a).den c.ρ)) w := by
        cases lt
        · have h4 : (mkLt a b).den c.ρ = u := h4
          rw [mkLt_den] at h4
          cases u
          · have : ¬ a.den c.ρ < b.den c.ρ := of_decide_eq_false h4
            simp [Builtin.max2, this]
          · have : a.den c.ρ < b.den c.ρ := of_decide_eq_true h4
            simp [Builtin.max2, this]
        · have h4 : (mkLt b a).den c.ρ = u := h4
          rw [mkLt_den] at h4
          cases u
          · have : ¬ b.den c.ρ < a.den c.ρ := of_decide_eq_false h4
            simp [Builtin.min2, this]
          · have : b.den c.ρ < a.den c.ρ := of_decide_eq_true h4
            simp [Builtin.min2, this]
      rw [hstep, Result.andThen_ok]; exact h8
    · exact (R.gives_fail h).elim

theorem minMax1_ok (hp : PcR c.ρ p) {lt : Bool} {l : List V} {xs : Array Value} {ts : Array TypeId} {ty : TypeId} {v : V} (hl : VRs c l xs.toList) (h : (minMax1 lt l).gives c.ρ m p v q) :
    PcR c.ρ q ∧ ∃ z, (if lt then Builtin.min_ ts ty xs else Builtin.max_ ts ty xs).run P w = .ok z w ∧ VR c v z := by
  cases l with
  | nil => exact (R.gives_fail h).elim
  | cons x l =>
    obtain ⟨X, ys, hxs, hx, hl'⟩ := VRs.cons_iff.1 hl
    have h : (onInt x (fun k a => minMax lt k l a) (R.fail "min")).gives c.ρ m p v q := h
    rcases onInt_cases x (fun k a => minMax lt k l a) (R.fail "min") with ⟨k, a, rfl, he⟩ | he <;> rw [he] at h
    · obtain ⟨rfl, h0, h1⟩ := VR.int.1 hx
      obtain ⟨h2, z, h3, h4⟩ := minMax_ok (P := P) (w := w) hp h0 h1 hl' h
      refine ⟨h2, z, ?_, h4⟩
      cases lt
      · simpa [Builtin.max_, hxs] using h3
      · simpa [Builtin.min_, hxs] using h3
    · exact (R.gives_fail h).elim

theorem nilCheckR_ok {x v : V} {X : Value} (hx : VR c x X) (h : (nilCheckR P x).gives c.ρ m p v q) : q = p ∧ v = x ∧ ((∃ a, X = .pointer (some a)) ∨ (∃ f a b, X = .func (.func f) a b) ∨ (∃ t y, X = .iface t y) ∨
    ∃ name a as b, X = .func (.method name) as b ∧ nilMeth P name a = true ∧ VRs c a as.toList) := by
  cases x <;> try exact (R.gives_fail (s := "nil") h).elim
  case ptr i o =>
    obtain ⟨rfl, rfl⟩ := R.gives_pure (show (R.pure (V.ptr i o)).gives c.ρ m p v q from h)
    obtain ⟨_, rfl⟩ := VR.ptr.1 hx
    exact ⟨rfl, rfl, .inl ⟨_, rfl⟩⟩
  case sptr i sz e f =>
    obtain ⟨rfl, rfl⟩ := R.gives_pure (show (R.pure (V.sptr i sz e f)).gives c.ρ m p v q from h)
    obtain ⟨_, j, _, rfl⟩ := VR.sptr.1 hx
    exact ⟨rfl, rfl, .inl ⟨_, rfl⟩⟩
  case func fn a b =>
    obtain ⟨as, bs, rfl, ha, _⟩ := VR.func.1 hx
    cases fn <;> try exact (R.gives_fail (s := "nil") h).elim
    case func g =>
      obtain ⟨rfl, rfl⟩ := R.gives_pure (show (R.pure (V.func _ a b)).gives c.ρ m p v q from h)
      exact ⟨rfl, rfl, .inr (.inl ⟨_, _, _, rfl⟩)⟩
    case method name =>
      obtain ⟨h1, h2⟩ := R.gives_if (show (selB (nilMeth P name a) (R.pure (V.func (.method name) a b)) (R.fail "nil")).gives c.ρ m p v q from h)
      obtain ⟨rfl, rfl⟩ := R.gives_pure h2
      exact ⟨rfl, rfl, .inr (.inr (.inr ⟨name, a, as, bs, rfl, h1, ha⟩))⟩
  case iface t y =>
    obtain ⟨y', rfl, _⟩ := VR.iface.1 hx
    obtain ⟨rfl, rfl⟩ := R.gives_pure (show (R.pure (V.iface t y)).gives c.ρ m p v q from h)
    exact ⟨rfl, rfl, .inr (.inr (.inl ⟨_, _, rfl⟩))⟩

theorem methodOf_some' {t : TypeId} {name : String} {r : FuncId × Bool} (h : methodOf P t name = some r) : ∃ i mt, P.info? t = some i ∧ i.methods.find? (·.name == name) = some mt ∧ mt.path.toList = [] ∧ mt.func = some r := by
  unfold methodOf at h
  split at h
  · simp at h
  · rename_i i hi
    split at h
    · simp at h
    · rename_i mt hmt
      split at h
      · rename_i hp; exact ⟨i, mt, hi, hmt, hp, h⟩
      · simp at h

theorem nilAhead_ok {k : Nat} {t : TypeId} {y : Value} {name : String} {r : FuncId × Bool} (h : methodOf P t name = some r) (hr : r.2 = true ∨ notPtr P t = true) : (nilAhead (k + 1) t y name).run P w = .ok (some false) w := by
  obtain ⟨i, mt, hi, hf, hpa, hfn⟩ := methodOf_some' h
  obtain ⟨f, pr⟩ := r
  unfold nilAhead
  simp only [Sem.run_bind, run_info hi, Result.andThen_ok, hf, hpa, followBlind, Sem.run_pure, hfn]
  cases pr with
  | true => rfl
  | false =>
    have hn : notPtr P t = true := hr.resolve_left (by simp)
    unfold notPtr at hn
    split at hn
    · exact nomatch hn
    · rename_i d hnp hu
      simp only [Sem.run_bind, run_und hu, Result.andThen_ok]
      cases d <;> first | rfl | exact absurd rfl (hnp _)
    · exact nomatch hn

theorem nilMeth_ok {name : String} {a : List V} {as : List Value} (ha : VRs c a as) (h : nilMeth P name a = true) : ∃ t y r, as[0]? = some (.iface t y) ∧ methodOf P t name = some r ∧ (r.2 = true ∨ notPtr P t = true) := by
  cases a with
  | nil => exact nomatch h
  | cons v l =>
    obtain ⟨X, ys, rfl, hv, _⟩ := VRs.cons_iff.1 ha
    have h : onIface v (fun t _ => (Option.rec false (fun m => orB m.2 (notPtr P t)) (methodOf P t name) : Bool)) false = true := h
    cases v with
    | iface t u =>
      obtain ⟨y, rfl, _⟩ := VR.iface.1 hv
      have h : (Option.rec false (fun m => orB m.2 (notPtr P t)) (methodOf P t name) : Bool) = true := h
      cases hm : methodOf P t name with
      | none => rw [hm] at h; exact nomatch h
      | some r =>
        rw [hm] at h
        have h : orB r.2 (notPtr P t) = true := h
        rw [orB_eq, Bool.or_eq_true] at h
        exact ⟨t, y, r, rfl, hm, h⟩
    | _ => exact (Bool.false_ne_true h).elim
end ops

end Go.Sy

/-
  What is proved here: the evaluator's slice expressions, lookups, assertions, lengths and built values do what the model's do.
  Conditions: none.
-/
namespace Go.Sy

/-- perhaps a value -/
def OptR (c : Cx) : Option V → Option Value → Prop
  | none, X => X = none
  | some v, X => ∃ x, X = some x ∧ VR c v x

section ops
variable {P : Program} {c : Cx} {m : Mem} {w : World} {p q : Pc}

theorem andB_iff {a b : Bool} : andB a b = true ↔ a = true ∧ b = true := by simp
theorem orB_iff {a b : Bool} : orB a b = true ↔ a = true ∨ b = true := by simp
theorem boundV_ok (hp : PcR c.ρ p) {x : V} {X : Value} {y i : Nat} (hx : VR c x X) (h : (boundV x y).gives c.ρ m p i q) :
    q = p ∧ i ≤ y ∧ ∀ (y' : Nat) (code : BoundsCode), y ≤ y' → (Instr.sliceBound X y' code).run P w = .ok i w := by
  unfold boundV at h
  obtain ⟨k, e, rfl, h1⟩ := onInt_gives h
  obtain ⟨j, p1, h2, h3⟩ := R.gives_bnd h1
  obtain ⟨h4, rfl⟩ := natR_gives hp h2
  obtain ⟨h5, h6⟩ := R.gives_if h3
  obtain ⟨rfl, rfl⟩ := R.gives_pure h6
  obtain ⟨rfl, _⟩ := VR.int.1 hx
  rw [ble_iff] at h5
  refine ⟨rfl, h5, fun y' code hy => ?_⟩
  have : (0 : Int) ≤ i ∧ (i : Int) ≤ y' := by omega
  simp [Instr.sliceBound, asIntOf, h4, this]

theorem splitO_ok (hp : PcR c.ρ p) {x : V} {o r : Option V} {O : Option Value} (ho : OptR c o O) (h : (splitO x o).gives c.ρ m p r q) : PcR c.ρ q ∧ OptR c r O := by
  cases o with
  | none =>
    obtain ⟨rfl, rfl⟩ := R.gives_pure (show (R.pure none).gives c.ρ m p r q from h)
    exact ⟨hp, ho⟩
  | some v =>
    obtain ⟨Y, rfl, hY⟩ := ho
    obtain ⟨u, p1, h1, h2⟩ := R.gives_bnd (show ((splitIx x v).bnd fun v => R.pure (some v)).gives c.ρ m p r q from h)
    obtain ⟨h3, h4⟩ := splitIx_ok hp hY h1
    obtain ⟨rfl, rfl⟩ := R.gives_pure h2
    exact ⟨h3, Y, rfl, h4⟩

theorem boundR_ok (hp : PcR c.ρ p) {x : Option V} {X : Option Value} {d y i : Nat} (hx : OptR c x X) (h : (boundR x d y).gives c.ρ m p i q) :
    q = p ∧ i ≤ y ∧ (X = none ∧ i = d ∨ ∃ z, X = some z ∧ ∀ (y' : Nat) (code : BoundsCode), y ≤ y' → (Instr.sliceBound z y' code).run P w = .ok i w) := by
  cases x with
  | none =>
    obtain ⟨h1, h2⟩ := R.gives_if (show (selB (Nat.ble d y) (R.pure d) (R.fail "slice bounds")).gives c.ρ m p i q from h)
    obtain ⟨rfl, rfl⟩ := R.gives_pure h2
    exact ⟨rfl, (ble_iff _ _).1 h1, .inl ⟨hx, rfl⟩⟩
  | some v =>
    obtain ⟨z, rfl, hz⟩ := hx
    obtain ⟨h1, h2, h3⟩ := boundV_ok (P := P) (w := w) hp hz (show (boundV v y).gives c.ρ m p i q from h)
    exact ⟨h1, h2, .inr ⟨z, rfl, h3⟩⟩

/-- the bounds: 'c0': what the third bound is held against; 'h0': what the second one is -/
theorem bounds_ok (hp : PcR c.ρ p) {lo hi mx : Option V} {L H M : Option Value} (hlo : OptR c lo L) (hhi : OptR c hi H) (hmx : OptR c mx M) {b : Bool} {len cap c0 h0 mm hh ll : Nat}
    (h2 : has2 hi mx = true) (hc : c0 ≤ cap) (hn : mx = none → mm = cap) (hm : ∀ v, mx = some v → (boundV v c0).gives c.ρ m p mm p)
    (hh0 : h0 ≤ mm) (hh' : (boundR hi len h0).gives c.ρ m p hh p) (hl' : (boundR lo 0 hh).gives c.ρ m p ll p) :
    ll ≤ hh ∧ hh ≤ h0 ∧ (Instr.sliceBounds b len cap L H M).run P w = .ok (ll, hh, mm) w := by
  obtain ⟨_, h3, h4⟩ := boundR_ok (P := P) (w := w) hp hhi hh'
  obtain ⟨_, h5, h6⟩ := boundR_ok (P := P) (w := w) hp hlo hl'
  refine ⟨h5, h3, ?_⟩
  unfold Instr.sliceBounds
  cases mx with
  | none =>
    have hM : M = none := hmx
    subst hM
    have := hn rfl; subst this
    rcases h4 with ⟨rfl, rfl⟩ | ⟨z, rfl, h4⟩ <;> rcases h6 with ⟨rfl, rfl⟩ | ⟨z', rfl, h6⟩
    · simp
    · simp [h6 _ _ (Nat.le_refl _)]
    · simp [h4 _ _ hh0]
    · simp [h4 _ _ hh0, h6 _ _ (Nat.le_refl _)]
  | some v =>
    obtain ⟨x, rfl, hx⟩ := hmx
    obtain ⟨_, _, h7⟩ := boundV_ok (P := P) (w := w) hp hx (hm v rfl)
    cases hi with
    | none => exact absurd h2 (by simp [has2, noneV])
    | some u =>
      rcases h4 with ⟨rfl, rfl⟩ | ⟨z, rfl, h4⟩
      · obtain ⟨_, he, _⟩ := hhi; simp at he
      · rcases h6 with ⟨rfl, rfl⟩ | ⟨z', rfl, h6⟩
        · simp [h7 _ _ hc, h4 _ _ hh0]
        · simp [h7 _ _ hc, h4 _ _ hh0, h6 _ _ (Nat.le_refl _)]

theorem bounds2_ok (hp : PcR c.ρ p) {lo hi : Option V} {L H : Option Value} (hlo : OptR c lo L) (hhi : OptR c hi H) {len cap : Nat} {f : Nat → Nat → R V} {v : V} (h : (bounds2 lo hi len cap f).gives c.ρ m p v q) :
    ∃ hh ll, (boundR hi len cap).gives c.ρ m p hh p ∧ (boundR lo 0 hh).gives c.ρ m p ll p ∧ (f ll hh).gives c.ρ m p v q := by
  unfold bounds2 at h
  obtain ⟨hh, p1, h1, h2⟩ := R.gives_bnd h
  obtain ⟨rfl, _⟩ := boundR_ok (P := default) (w := default) hp hhi h1
  obtain ⟨ll, p2, h3, h4⟩ := R.gives_bnd h2
  obtain ⟨rfl, _⟩ := boundR_ok (P := default) (w := default) hp hlo h3
  exact ⟨hh, ll, h1, h3, h4⟩

theorem mx_ok (hp : PcR c.ρ p) {mx : Option V} {M : Option Value} (hmx : OptR c mx M) {c0 mm : Nat} (h : (boundR mx c0 c0).gives c.ρ m p mm q) :
    q = p ∧ mm ≤ c0 ∧ (mx = none → mm = c0) ∧ ∀ v, mx = some v → (boundV v c0).gives c.ρ m p mm p := by
  obtain ⟨rfl, h1, h2⟩ := boundR_ok (P := default) (w := default) hp hmx h
  refine ⟨rfl, h1, fun hn => ?_, fun v hv => ?_⟩
  · subst hn
    rcases h2 with ⟨_, rfl⟩ | ⟨z, rfl, _⟩
    · rfl
    · exact absurd hmx (by simp [OptR])
  · subst hv; exact h

theorem sliceN_ok (hp : PcR c.ρ p) {lo hi mx : Option V} {L H M : Option Value} (hlo : OptR c lo L) (hhi : OptR c hi H) (hmx : OptR c mx M) {b : Bool} {sz i o len c0 cap : Nat} {v : V}
    (h2 : has2 hi mx = true) (hc : c0 ≤ cap) (hcn : mx = none → c0 = cap) (hi' : c.has i) (h : (sliceN sz i o len c0 lo hi mx).gives c.ρ m p v q) :
    q = p ∧ ∃ ll hh mm, (Instr.sliceBounds b len cap L H M).run P w = .ok (ll, hh, mm) w ∧ VR c v (.slice (some (if mm = ll then c.ad i o else (c.ad i o).add (ll * sz))) (hh - ll) (mm - ll)) := by
  obtain ⟨mm, p1, h3, h4⟩ := R.gives_bnd (show ((boundR mx c0 c0).bnd fun m => bounds2 lo hi len m fun j h => R.pure (V.slice i (selB (Nat.beq m j) o (Nat.add o (Nat.mul j sz))) (Nat.sub h j) (.n (Nat.sub m j)))).gives c.ρ m p v q from h)
  obtain ⟨rfl, h5, h6, h7⟩ := mx_ok hp hmx h3
  obtain ⟨hh, ll, h8, h9, h10⟩ := bounds2_ok hp hlo hhi h4
  obtain ⟨rfl, rfl⟩ := R.gives_pure h10
  obtain ⟨h11, h12, h13⟩ := bounds_ok (P := P) (w := w) hp hlo hhi hmx (b := b) (len := len) h2 hc (fun hn => (h6 hn).trans (hcn hn)) h7 (Nat.le_refl _) h8 h9
  refine ⟨rfl, ll, hh, mm, h13, VR.slice.2 ⟨hi', mm - ll, rfl, Nat.sub_le_sub_right h12 _, ?_⟩⟩
  by_cases e : mm = ll
  · rw [if_pos e, (beq_iff _ _).2 e]; rfl
  · rw [if_neg e, (beq_false _ _).2 e]; show _ = Value.slice (some (c.ad i (o + ll * sz))) _ _; rw [Cx.ad_add]; rfl

theorem sliceR_ok (hm : MemR c m w) (hp : PcR c.ρ p) {t : TypeId} {lo hi mx : Option V} {L H M : Option Value} (hlo : OptR c lo L) (hhi : OptR c hi H) (hmx : OptR c mx M) {x v : V} {X : Value} (hx : VR c x X)
    (h : (sliceR P t lo hi mx x).gives c.ρ m p v q) : q = p ∧ ∃ z, (Instr.sliceAt t X L H M).run P w = .ok z w ∧ VR c v z := by
  obtain ⟨h2, hk⟩ := R.gives_if (show (selB (has2 hi mx) (sliceX P t lo hi mx x) (R.fail "slice")).gives c.ρ m p v q from h)
  clear h
  cases x <;> try exact (R.gives_fail (s := "slice") hk).elim
  case str l =>
    obtain ⟨h3, h4⟩ := R.gives_if (show (selB (andB (isStrT P t) (noneV mx)) (sliceStr l lo hi) (R.fail "slice")).gives c.ρ m p v q from hk)
    obtain ⟨s, rfl, hs⟩ := VR.str.1 hx
    obtain ⟨h5, h6⟩ := (andB_iff).1 h3
    cases mx with
    | some _ => exact (Bool.false_ne_true h6).elim
    | none =>
      have hM : M = none := hmx
      subst hM
      obtain ⟨hh, ll, h8, h9, h10⟩ := bounds2_ok hp hlo hhi (show (bounds2 lo hi (lenL l) (lenL l) fun j h => R.opt "slice" ((takeE (Nat.sub h j) (dropN j l)).map V.str)).gives c.ρ m p v q from h4)
      obtain ⟨h11, rfl⟩ := R.gives_opt h10
      obtain ⟨r, h12, rfl⟩ := Option.map_eq_some_iff.1 h11
      obtain ⟨h13, h14⟩ := takeE_eq h12
      have hsz : lenL l = s.size := by rw [lenL_eq, ← hs.length]; simp
      rw [hsz] at h8
      obtain ⟨h15, h16, h17⟩ := bounds_ok (P := P) (w := w) hp hlo hhi hmx (b := false) (len := s.size) (cap := s.size) (c0 := s.size) (mm := s.size) h2 (Nat.le_refl _) (fun _ => rfl) (fun v hv => by simp at hv) (Nat.le_refl _) h8 h9
      refine ⟨rfl, .string (s.extract ll hh), by simp [Instr.sliceAt, Instr.slice, run_und (isStrT_iff h5), h17], VR.str.2 ⟨_, rfl, ?_⟩⟩
      rw [dropN_eq] at h13
      subst h13
      show BR c ((l.drop ll).take (hh - ll)) _
      unfold BR at *
      rw [List.map_take, List.map_drop, hs, ← List.map_drop, ← List.map_take]
      congr 1
      simp [ByteArray.data_extract]
  case slice i o len cp =>
    have h : (Option.rec (R.fail "slice") (fun a => sliceS a.2 i o len cp lo hi mx) (slcOf P t) : R V).gives c.ρ m p v q := hk
    cases ha : slcOf P t with
    | none => rw [ha] at h; exact (R.gives_fail h).elim
    | some a =>
      rw [ha] at h
      obtain ⟨ht, hsz⟩ := slcOf_some ha
      obtain ⟨hb, cap, hcap, hlen, rfl⟩ := VR.slice.1 hx
      have fin : ∀ {v : V}, (∃ ll hh mm, (Instr.sliceBounds true len cap L H M).run P w = .ok (ll, hh, mm) w ∧ VR c v (.slice (some (if mm = ll then c.ad i o else (c.ad i o).add (ll * a.2))) (hh - ll) (mm - ll))) →
          ∃ z, (Instr.sliceAt t (.slice (some (c.ad i o)) len cap) L H M).run P w = .ok z w ∧ VR c v z := by
        rintro v ⟨ll, hh, mm, hr, hv⟩
        refine ⟨_, ?_, hv⟩
        simp [Instr.sliceAt, Instr.slice, run_und ht, hr, run_size hsz]
        split <;> rfl
      cases cp with
      | n k =>
        have hk : cap = k := hcap
        subst hk
        obtain ⟨rfl, h3⟩ := sliceN_ok (P := P) (w := w) (b := true) hp hlo hhi hmx h2 (Nat.le_refl _) (fun _ => rfl) hb (show (sliceN a.2 i o len cap lo hi mx).gives c.ρ m p v q from h)
        exact ⟨rfl, fin h3⟩
      | u =>
        have h : (selB (noneV mx) (R.fail "slice the capacity") (sliceN a.2 i o len len lo hi mx)).gives c.ρ m p v q := h
        rcases R.gives_selB h with ⟨_, h4⟩ | ⟨h3, h4⟩
        · exact (R.gives_fail h4).elim
        · obtain ⟨rfl, h5⟩ := sliceN_ok (P := P) (w := w) (b := true) hp hlo hhi hmx h2 hlen (fun hn => by subst hn; exact (Bool.false_ne_true h3.symm).elim) hb h4
          exact ⟨rfl, fin h5⟩
      | t tk k =>
        have h : (selB (noneV mx) (sliceT a.2 i o len tk k lo hi) (sliceN a.2 i o len len lo hi mx)).gives c.ρ m p v q := h
        rcases R.gives_selB h with ⟨h3, h4⟩ | ⟨h3, h4⟩
        · cases mx with
          | some _ => exact (Bool.false_ne_true h3).elim
          | none =>
            have hM : M = none := hmx
            subst hM
            have h4 : (bounds2 lo hi len (roomT len k (lbTok m tk)) fun j h => fun m p => selB (orB (Nat.beq j 0) (Nat.blt (Nat.add j k) (lbTok m tk))) (T.ret (⟨.slice i (Nat.add o (Nat.mul j a.2)) (Nat.sub h j) (.t tk (Nat.add k j)), p⟩ : Rp V)) (selB (Nat.beq h j) (T.ret (⟨.eslice i (some (Nat.add o (Nat.mul j a.2), tk, Nat.add k j)), p⟩ : Rp V)) (.fail "slice at the end"))).gives c.ρ m p v q := h4
            have hroom : roomT len k (lbTok m tk) ≤ cap := by
              unfold roomT
              cases hr : Nat.ble (Nat.add len k) (lbTok m tk) with
              | false => exact hlen
              | true =>
                show lbTok m tk - k ≤ cap
                cases ht' : m.tok.get tk with
                | none => unfold lbTok; rw [ht']; show 0 - k ≤ cap; omega
                | some n =>
                  have h5 := (hm.tok tk n ht').2
                  unfold lbTok; rw [ht']
                  have h6 : cap + k = c.γ tk := hcap.2
                  show n - k ≤ cap
                  omega
            obtain ⟨hh, ll, h8, h9, h10⟩ := bounds2_ok hp hlo hhi h4
            obtain ⟨h15, h16, h17⟩ := bounds_ok (P := P) (w := w) hp hlo hhi hmx (b := true) (len := len) (cap := cap) (c0 := cap) (mm := cap) h2 (Nat.le_refl _) (fun _ => rfl) (fun v hv => by simp at hv) hroom h8 h9
            have h10' : (selB (orB (Nat.beq ll 0) (Nat.blt (Nat.add ll k) (lbTok m tk))) (T.ret (⟨.slice i (Nat.add o (Nat.mul ll a.2)) (Nat.sub hh ll) (.t tk (Nat.add k ll)), p⟩ : Rp V)) (selB (Nat.beq hh ll) (T.ret (⟨.eslice i (some (Nat.add o (Nat.mul ll a.2), tk, Nat.add k ll)), p⟩ : Rp V)) (.fail "slice at the end"))).out c.ρ = some ⟨v, q⟩ := h10
            cases hq : orB (Nat.beq ll 0) (Nat.blt (Nat.add ll k) (lbTok m tk)) with
            | false =>
              rw [hq] at h10'
              have h10' : (selB (Nat.beq hh ll) (T.ret (⟨.eslice i (some (Nat.add o (Nat.mul ll a.2), tk, Nat.add k ll)), p⟩ : Rp V)) (.fail "slice at the end")).out c.ρ = some ⟨v, q⟩ := h10'
              cases hq2 : Nat.beq hh ll with
              | false => rw [hq2] at h10'; simp [selB, T.out] at h10'
              | true =>
                rw [hq2] at h10'; simp only [selB, T.out, Option.some.injEq, Rp.mk.injEq] at h10'
                obtain ⟨rfl, rfl⟩ := h10'
                rw [beq_iff] at hq2
                subst hq2
                refine ⟨rfl, fin ⟨hh, hh, cap, h17, VR.eslice.2 ⟨hb, ?_⟩⟩⟩
                rw [Nat.sub_self]
                split
                · exact ⟨o, _, rfl, hcap.1, .inl (by omega)⟩
                · exact ⟨o + hh * a.2, cap - hh, by rw [Cx.ad_add], hcap.1, .inr ⟨rfl, by
                    have h1 : cap + k = c.γ tk := hcap.2
                    show cap - hh + (k + hh) = c.γ tk
                    omega⟩⟩
            | true =>
              rw [hq] at h10'; simp only [selB, T.out, Option.some.injEq, Rp.mk.injEq] at h10'
              obtain ⟨rfl, rfl⟩ := h10'
              obtain ⟨hnt, hck⟩ := hcap
              have hcase : ll = 0 ∨ ll < cap := by
                rcases (orB_iff).1 hq with h5 | h5
                · exact .inl ((beq_iff _ _).1 h5)
                · right
                  rw [blt_iff] at h5
                  cases ht' : m.tok.get tk with
                  | none => unfold lbTok at h5; rw [ht'] at h5; exact absurd h5 (by simp)
                  | some n =>
                    have := (hm.tok tk n ht').2
                    unfold lbTok at h5; rw [ht'] at h5
                    have h5 : ll + k < n := h5
                    omega
              refine ⟨rfl, fin ⟨ll, hh, cap, h17, VR.slice.2 ⟨hb, cap - ll, ⟨hnt, by show cap - ll + (k + ll) = c.γ tk; omega⟩, Nat.sub_le_sub_right (Nat.le_trans h16 hroom) _, ?_⟩⟩⟩
              split
              · have : ll = 0 := by omega
                subst this; simp
              · rw [Cx.ad_add]; rfl
        · obtain ⟨rfl, h5⟩ := sliceN_ok (P := P) (w := w) (b := true) hp hlo hhi hmx h2 hlen (fun hn => by subst hn; exact (Bool.false_ne_true h3.symm).elim) hb h4
          exact ⟨rfl, fin h5⟩
  case nilSlice =>
    have h : (Option.rec (R.fail "slice") (fun _ => (boundR mx 0 0).bnd fun _ => bounds2 lo hi 0 0 fun _ _ => R.pure .nilSlice) (slcOf P t) : R V).gives c.ρ m p v q := hk
    cases ha : slcOf P t with
    | none => rw [ha] at h; exact (R.gives_fail h).elim
    | some a =>
      rw [ha] at h
      obtain ⟨ht, hsz⟩ := slcOf_some ha
      rw [VR.nilSlice] at hx; subst hx
      obtain ⟨mm, p1, h3, h4⟩ := R.gives_bnd h
      obtain ⟨rfl, h5, h6, h7⟩ := mx_ok hp hmx h3
      obtain ⟨hh, ll, h8, h9, h10⟩ := bounds2_ok hp hlo hhi h4
      obtain ⟨rfl, rfl⟩ := R.gives_pure h10
      have : mm = 0 := by omega
      subst this
      obtain ⟨h15, h16, h17⟩ := bounds_ok (P := P) (w := w) hp hlo hhi hmx (b := true) (len := 0) (cap := 0) h2 (Nat.le_refl _) h6 h7 (Nat.le_refl _) h8 h9
      have : hh = 0 := by omega
      subst this
      have : ll = 0 := by omega
      subst this
      exact ⟨rfl, .slice none 0 0, by simp [Instr.sliceAt, Instr.slice, run_und ht, h17, run_size hsz], VR.nilSlice.2 rfl⟩
  case eslice i z =>
    have h : (Option.rec (R.fail "slice") (fun _ => (boundR mx 0 0).bnd fun _ => bounds2 lo hi 0 0 fun _ _ => R.pure (.eslice i (selB (noneV mx) z none))) (slcOf P t) : R V).gives c.ρ m p v q := hk
    cases ha : slcOf P t with
    | none => rw [ha] at h; exact (R.gives_fail h).elim
    | some a =>
      rw [ha] at h
      obtain ⟨ht, hsz⟩ := slcOf_some ha
      obtain ⟨hb, o, cap, rfl, hzc⟩ := VR.eslice.1 hx
      obtain ⟨m0, p1, h3, h4⟩ := R.gives_bnd h
      obtain ⟨rfl, h5, h6, h7⟩ := mx_ok hp hmx h3
      obtain ⟨hh, ll, h8, h9, h10⟩ := bounds2_ok hp hlo hhi h4
      obtain ⟨rfl, rfl⟩ := R.gives_pure h10
      have : m0 = 0 := by omega
      subst this
      obtain ⟨mm, g1, g2⟩ : ∃ mm, (mx = none → mm = cap) ∧ ∀ v, mx = some v → mm = 0 := by
        cases mx with
        | none => exact ⟨cap, fun _ => rfl, fun v hv => nomatch hv⟩
        | some v => exact ⟨0, fun h => (nomatch h), fun _ _ => rfl⟩
      obtain ⟨h15, h16, h17⟩ := bounds_ok (P := P) (w := w) hp hlo hhi hmx (b := true) (len := 0) (cap := cap) (c0 := 0) (mm := mm) h2 (Nat.zero_le _) g1 (fun v hv => by rw [g2 v hv]; exact h7 v hv) (Nat.zero_le _) h8 h9
      have : hh = 0 := by omega
      subst this
      have : ll = 0 := by omega
      subst this
      refine ⟨rfl, .slice (some (c.ad i o)) 0 mm, ?_, VR.eslice.2 ⟨hb, o, mm, rfl, ?_⟩⟩
      · have e : (c.ad i o).add 0 = c.ad i o := Cx.ad_add c i o 0
        simp [Instr.sliceAt, Instr.slice, run_und ht, h17, run_size hsz, e]
      · cases mx with
        | none => rw [g1 rfl]; exact hzc
        | some v => exact g2 v rfl
  case ptr i o =>
    have h : (Option.rec (R.fail "slice") (fun a => sliceN a.2.2 i o a.1 a.1 lo hi mx) (arrOf P t) : R V).gives c.ρ m p v q := hk
    cases ha : arrOf P t with
    | none => rw [ha] at h; exact (R.gives_fail h).elim
    | some a =>
      rw [ha] at h
      obtain ⟨ht, hsz⟩ := arrOf_some ha
      obtain ⟨hb, rfl⟩ := VR.ptr.1 hx
      obtain ⟨rfl, ll, hh, mm, hr, hv⟩ := sliceN_ok (P := P) (w := w) (b := false) hp hlo hhi hmx h2 (Nat.le_refl _) (fun _ => rfl) hb (show (sliceN a.2.2 i o a.1 a.1 lo hi mx).gives c.ρ m p v q from h)
      exact ⟨rfl, _, by simp [Instr.sliceAt, Instr.sureAddr, run_und ht, hr, run_size hsz], hv⟩
end ops

end Go.Sy

/-
  What is proved here: the evaluator's lookups, assertions, lengths and built values do what the model's do.
  Conditions: none.
-/
namespace Go.Sy

section ops
variable {P : Program} {c : Cx} {m : Mem} {w : World} {p q : Pc}

theorem run_getObj {r : Nat} {es : Array MapEntry} {k : Nat} (h : w.heap[r]? = some (.map es k)) : (getObj r).run P w = .ok (.map es k) w := by simp [getObj, Sem.run, h]

/-! ### lengths -/

theorem lenN_ok {n : Nat} {v : V} (h : (lenN n).gives c.ρ m p v q) : q = p ∧ VR c v (goInt n) := by
  obtain ⟨h1, h2⟩ := R.gives_if (show (selB (Nat.ble n 4611686018427387904) (R.pure (intN n)) (R.fail "a great length")).gives c.ρ m p v q from h)
  obtain ⟨rfl, rfl⟩ := R.gives_pure h2
  rw [ble_iff] at h1
  exact ⟨rfl, VR.intN n (by omega)⟩

theorem lenR_ok (hm : MemR c m w) {t ty : TypeId} {ts : Array TypeId} {xs : Array Value} {x v : V} {X : Value} (hx : VR c x X) (hts : ts[0]? = some t) (hxs : xs[0]? = some X) (h : (lenR P t x).gives c.ρ m p v q) :
    q = p ∧ ∃ z, (Builtin.len_ ts ty xs).run P w = .ok z w ∧ VR c v z := by
  unfold lenR at h
  cases hu : P.underlying t with
  | none => rw [hu] at h; exact (R.gives_fail h).elim
  | some d =>
    rw [hu] at h
    cases d <;> try exact (R.gives_fail (s := "len") h).elim
    case string =>
      obtain ⟨l, rfl, h1⟩ := onStr_gives (s := "len") (show (onStr x (fun l => lenN (lenL l)) (R.fail "len")).gives c.ρ m p v q from h)
      obtain ⟨rfl, h2⟩ := lenN_ok h1
      obtain ⟨s, rfl, hs⟩ := VR.str.1 hx
      have : lenL l = s.size := by rw [lenL_eq, ← hs.length]; simp
      rw [this] at h2
      exact ⟨rfl, _, by simp [Builtin.len_, hts, hxs, run_und hu], h2⟩
    case array n e =>
      obtain ⟨rfl, h2⟩ := lenN_ok (show (lenN n).gives c.ρ m p v q from h)
      exact ⟨rfl, _, by simp [Builtin.len_, hts, hxs, run_und hu], h2⟩
    case slice e =>
      have hk : (lenSliceX x).gives c.ρ m p v q := h
      clear h
      cases x <;> try exact (R.gives_fail (s := "len") hk).elim
      case nilSlice =>
        obtain ⟨rfl, rfl⟩ := R.gives_pure (show (R.pure (intN 0)).gives c.ρ m p v q from hk)
        rw [VR.nilSlice] at hx; subst hx
        exact ⟨rfl, _, by simp [Builtin.len_, hts, hxs, run_und hu], VR.intN 0 (by omega)⟩
      case eslice i z =>
        obtain ⟨rfl, rfl⟩ := R.gives_pure (show (R.pure (intN 0)).gives c.ρ m p v q from hk)
        obtain ⟨_, o, cap, rfl, _⟩ := VR.eslice.1 hx
        exact ⟨rfl, _, by simp [Builtin.len_, hts, hxs, run_und hu], VR.intN 0 (by omega)⟩
      case sarr i sz len =>
        obtain ⟨rfl, rfl⟩ := R.gives_pure (show (R.pure (V.int .i64 len)).gives c.ρ m p v q from hk)
        obtain ⟨_, n, cap, h1, h2, h3⟩ := VR.sarr.1 hx
        have hg : goInt (n : Int) = .int .i64 (n : Int) := (VR.int.1 (VR.intN (c := c) n (by omega))).1
        have hv : VR c (.int .i64 len) (.int .i64 (n : Int)) := VR.int.2 ⟨by rw [h1], by rw [h1]; simp [kMin, IntKind.signed, limN], by rw [h1]; simp [kMax, limN]; omega⟩
        rcases h3 with ⟨_, rfl⟩ | ⟨rfl, a, rfl, _⟩
        · exact ⟨rfl, _, by simp [Builtin.len_, hts, hxs, run_und hu, hg], hv⟩
        · exact ⟨rfl, .int .i64 0, by simp [Builtin.len_, hts, hxs, run_und hu]; exact hg, hv⟩
      case slice i o n cp =>
        obtain ⟨rfl, h2⟩ := lenN_ok (show (lenN n).gives c.ρ m p v q from hk)
        obtain ⟨_, cap, _, _, rfl⟩ := VR.slice.1 hx
        exact ⟨rfl, _, by simp [Builtin.len_, hts, hxs, run_und hu], h2⟩
    case map k e =>
      have hk : (lenMapX x).gives c.ρ m p v q := h
      clear h
      cases x <;> try exact (R.gives_fail (s := "len") hk).elim
      case nilMap =>
        obtain ⟨rfl, rfl⟩ := R.gives_pure (show (R.pure (intN 0)).gives c.ρ m p v q from hk)
        rw [VR.nilMap] at hx; subst hx
        exact ⟨rfl, _, by simp [Builtin.len_, hts, hxs, run_und hu], VR.intN 0 (by omega)⟩
      case map i =>
        have hk : (onPm (m.tr.get i) (fun es _ => lenN (lenL es) m p) (onMapB (m.tr.get i) (fun es _ _ => lenN (lenL es) m p) (.fail "len no map"))).out c.ρ = some ⟨v, q⟩ := hk
        rcases onPm_cases (b := m.tr.get i) (fun es _ => lenN (lenL es) m p) (onMapB (m.tr.get i) (fun es _ _ => lenN (lenL es) m p) (.fail "len no map")) with ⟨es, wr, hb, he⟩ | he <;> rw [he] at hk
        · obtain ⟨rfl, h2⟩ := lenN_ok (show (lenN (lenL es)).gives c.ρ m p v q from hk)
          obtain ⟨_, es', kk, h3, h4⟩ := hm.blk i _ hb
          obtain ⟨_, rfl⟩ := VR.map.1 hx
          have : lenL es = es'.size := by rw [lenL_eq, ← h4.length]; simp
          rw [this] at h2
          have hg : (getObj (c.β i).1).run P w = .ok (.map es' kk) w := run_getObj h3
          exact ⟨rfl, _, by simp [Builtin.len_, hts, hxs, run_und hu, hg], h2⟩
        obtain ⟨es, kk, wr, hb, h1⟩ := onMapB_gives hk
        obtain ⟨rfl, h2⟩ := lenN_ok (show (lenN (lenL es)).gives c.ρ m p v q from h1)
        obtain ⟨_, es', h3, h4⟩ := hm.blk i _ hb
        obtain ⟨_, rfl⟩ := VR.map.1 hx
        have : lenL es = es'.size := by rw [lenL_eq, ← h4.1]; simp
        rw [this] at h2
        have hg : (getObj (c.β i).1).run P w = .ok (.map es' kk) w := run_getObj h3
        exact ⟨rfl, _, by simp [Builtin.len_, hts, hxs, run_und hu, hg], h2⟩

theorem capR_ok {t ty : TypeId} {ts : Array TypeId} {xs : Array Value} {x v : V} {X : Value} (hx : VR c x X) (hts : ts[0]? = some t) (hxs : xs[0]? = some X) (h : (capR P t x).gives c.ρ m p v q) :
    q = p ∧ ∃ z, (Builtin.cap_ ts ty xs).run P w = .ok z w ∧ VR c v z := by
  unfold capR at h
  cases hu : P.underlying t with
  | none => rw [hu] at h; exact (R.gives_fail h).elim
  | some d =>
    rw [hu] at h
    cases d <;> try exact (R.gives_fail (s := "cap") h).elim
    case array n e =>
      obtain ⟨rfl, h2⟩ := lenN_ok (show (lenN n).gives c.ρ m p v q from h)
      exact ⟨rfl, _, by simp [Builtin.cap_, hts, hxs, run_und hu], h2⟩
    case slice e =>
      have hk : (capX x).gives c.ρ m p v q := h
      clear h
      cases x <;> try exact (R.gives_fail (s := "cap") hk).elim
      case nilSlice =>
        obtain ⟨rfl, rfl⟩ := R.gives_pure (show (R.pure (intN 0)).gives c.ρ m p v q from hk)
        rw [VR.nilSlice] at hx; subst hx
        exact ⟨rfl, _, by simp [Builtin.cap_, hts, hxs, run_und hu], VR.intN 0 (by omega)⟩
      case eslice i z =>
        cases z with
        | some a => exact (R.gives_fail (s := "cap not known") hk).elim
        | none =>
        obtain ⟨rfl, rfl⟩ := R.gives_pure (show (R.pure (intN 0)).gives c.ρ m p v q from hk)
        obtain ⟨_, o, cap, rfl, hc⟩ := VR.eslice.1 hx
        have hc : cap = 0 := hc
        subst hc
        exact ⟨rfl, _, by simp [Builtin.cap_, hts, hxs, run_und hu], VR.intN 0 (by omega)⟩
      case slice i o n cp =>
        cases cp with
        | t => exact (R.gives_fail (s := "cap not known") hk).elim
        | u => exact (R.gives_fail (s := "cap not known") hk).elim
        | n k =>
          obtain ⟨rfl, h2⟩ := lenN_ok (show (lenN k).gives c.ρ m p v q from hk)
          obtain ⟨_, cap, hc, _, rfl⟩ := VR.slice.1 hx
          have hc : cap = k := hc
          subst hc
          exact ⟨rfl, _, by simp [Builtin.cap_, hts, hxs, run_und hu], h2⟩

/-! ### lookups -/

theorem mapOf_some {t : TypeId} {a : TypeId × TypeId} (h : mapOf P t = some a) : P.underlying t = some (.map a.1 a.2) ∧ keyOK P a.1 = true := by
  unfold mapOf at h; split at h
  · rename_i k e h'
    cases hk : keyOK P k <;> rw [hk] at h
    · simp at h
    · simp at h; subst h; exact ⟨h', hk⟩
  · simp at h

theorem plainK_some {t : TypeId} (h : plainK P t = true) : ∃ d, P.underlying t = some d ∧ ((∃ k, d = .int k) ∨ d = .string ∨ d = .bool) := by
  unfold plainK at h; split at h
  · exact ⟨_, by assumption, .inl ⟨_, rfl⟩⟩
  · exact ⟨_, by assumption, .inr (.inl rfl)⟩
  · exact ⟨_, by assumption, .inr (.inr rfl)⟩
  · simp at h

/-- what a key of cells is -/
def KeyT (P : Program) (n : Nat) (d : TypeDesc) : Prop :=
  (∃ e, d = .array n e ∧ (∃ k, P.underlying e = some (.int k)) ∧ szOf P e = some 1) ∨ ∃ fs, d = .struct fs ∧ ∀ f ∈ fs.toList, plainK P f.type = true ∧ szOf P f.type = some 1 ∧ f.offset < n

theorem keyArr_some {t : TypeId} {n : Nat} (h : keyArr P t = some n) : ∃ d, P.underlying t = some d ∧ KeyT P n d := by
  unfold keyArr at h; split at h
  · rename_i k e h'
    split at h
    · rename_i h1 h2
      obtain rfl := Option.some.inj h
      exact ⟨_, h', .inl ⟨e, rfl, ⟨_, h1⟩, h2⟩⟩
    · exact nomatch h
  · rename_i fs h'
    split at h
    · rename_i k _
      cases hf : fs.toList.all (keyField P k) with
      | false => rw [hf] at h; exact nomatch h
      | true =>
        rw [hf] at h
        obtain rfl := Option.some.inj h
        refine ⟨_, h', .inr ⟨fs, rfl, fun f hfm => ?_⟩⟩
        have := List.all_eq_true.1 hf f hfm
        unfold keyField at this
        rw [Bool.and_eq_true, Bool.and_eq_true, beq_iff_eq, blt_iff] at this
        exact ⟨this.1, this.2.1, this.2.2⟩
    · exact nomatch h
  · exact nomatch h

theorem plain_noArr {t : TypeId} (h : plainK P t = true) : keyArr P t = none := by
  obtain ⟨d, hd, h1⟩ := plainK_some h
  unfold keyArr
  rw [hd]
  rcases h1 with ⟨k, rfl⟩ | rfl | rfl <;> rfl

theorem keyOK_cases {t : TypeId} (h : keyOK P t = true) : plainK P t = true ∨ ∃ a, keyArr P t = some a := by
  unfold keyOK at h
  rw [Bool.or_eq_true] at h
  rcases h with h | h
  · exact .inl h
  · exact .inr (Option.isSome_iff_exists.1 h)

theorem checkKeys_run {e : Bool} {n el : Nat} {kk : IntKind} (hel : P.underlying el = some (.int kk)) (hsz : szOf P el = some 1) {xs : Array Value} : ∀ {l : List Nat}, (∀ i ∈ l, ∃ x, (part el xs (i * 1)).run P w = .ok x w) →
    (forIn l PUnit.unit fun i _ => (do let x ← sizeOf el; let y ← part el xs (i * x); Instr.checkKey e (n + 1) el y; pure (ForInStep.yield PUnit.unit) : Sem (ForInStep PUnit))).run P w = .ok () w
  | [], _ => by simp
  | i :: l, h => by
    obtain ⟨x, hx⟩ := h i (List.mem_cons_self ..)
    have hck : (Instr.checkKey e (n + 1) el x).run P w = .ok () w := by
      unfold Instr.checkKey
      rw [Sem.run_bind, run_und hel, Result.andThen_ok]
      rfl
    have ih := checkKeys_run (e := e) (n := n) hel hsz (xs := xs) (l := l) fun j hj => h j (List.mem_cons_of_mem _ hj)
    simp only [List.forIn_cons, Sem.run_bind, run_size hsz, Result.andThen_ok, hx, hck, Sem.run_pure]
    exact ih

theorem checkPlain_run {e : Bool} {n : Nat} {t : TypeId} (h : plainK P t = true) {x : Value} : (Instr.checkKey e (n + 1) t x).run P w = .ok () w := by
  obtain ⟨d, hu, hd⟩ := plainK_some h
  unfold Instr.checkKey
  rw [Sem.run_bind, run_und hu, Result.andThen_ok]
  rcases hd with ⟨k, rfl⟩ | rfl | rfl <;> simp

theorem checkFields_run {e : Bool} {n : Nat} {xs : Array Value} : ∀ {l : List Field}, (∀ f ∈ l, plainK P f.type = true ∧ ∃ x, (part f.type xs f.offset).run P w = .ok x w) →
    (forIn l PUnit.unit fun f _ => (if f.name ≠ "_" then do let y ← part f.type xs f.offset; Instr.checkKey e (n + 1) f.type y; pure (ForInStep.yield PUnit.unit) else do pure PUnit.unit; pure (ForInStep.yield PUnit.unit) : Sem (ForInStep PUnit))).run P w = .ok () w
  | [], _ => by simp
  | f :: l, h => by
    obtain ⟨h1, x, hx⟩ := h f (List.mem_cons_self ..)
    have ih := checkFields_run (e := e) (n := n) (xs := xs) (l := l) fun j hj => h j (List.mem_cons_of_mem _ hj)
    by_cases hn : f.name ≠ "_"
    · simp only [List.forIn_cons, if_pos hn, Sem.run_bind, Result.andThen_ok, hx, checkPlain_run h1, Sem.run_pure]
      exact ih
    · simp only [List.forIn_cons, if_neg hn, Sem.run_bind, Result.andThen_ok, Sem.run_pure]
      exact ih

theorem checkKey_ok {t : TypeId} (h : keyOK P t = true) {k : V} {K : Value} (hk : VR c k K) (hf : keyFit P t k = true) (e : Bool) : (Instr.checkKey e 10000 t K).run P w = .ok () w := by
  rcases keyOK_cases h with hpl | ⟨a, ha⟩
  · obtain ⟨d, hu, hd⟩ := plainK_some hpl
    unfold Instr.checkKey
    rw [Sem.run_bind, run_und hu, Result.andThen_ok]
    rcases hd with ⟨k, rfl⟩ | rfl | rfl <;> simp
  · obtain ⟨d, hu, hd⟩ := keyArr_some ha
    have hf : (Option.rec true (fun a => onAgg k (fun l => Nat.beq (lenL l) a) false) (keyArr P t) : Bool) = true := hf
    rw [ha] at hf
    rcases onAgg_cases k (fun l => Nat.beq (lenL l) a) false with ⟨l, rfl, he⟩ | he
    · have hf : Nat.beq (lenL l) a = true := hf
      rw [beq_iff, lenL_eq] at hf
      obtain ⟨xs, rfl, hl⟩ := VR.agg.1 hk
      rcases hd with ⟨el, rfl, ⟨kk, hel⟩, hsz⟩ | ⟨fs, rfl, hfs⟩
      rotate_left
      · unfold Instr.checkKey
        simp only [Sem.run_bind, run_und hu, Result.andThen_ok]
        rw [← Array.forIn_toList, checkFields_run (n := 9998) (xs := xs) (e := e) (l := fs.toList) fun f hfm => ?_]
        · rfl
        obtain ⟨h1, h2, h3⟩ := hfs f hfm
        obtain ⟨d, hdu, hdk⟩ := plainK_some h1
        have hag : aggSz P f.type = some none := by
          rcases hdk with ⟨kk, rfl⟩ | rfl | rfl <;> simp [aggSz, isAggT, hdu, h2, aggD]
        obtain ⟨x, hx, _⟩ := partV_ok (w := w) (P := P) (t := f.type) (off := f.offset) (v := l[f.offset]) hl (by
          unfold partV
          rw [hag]
          show nth f.offset l = some l[f.offset]
          rw [nth_eq]
          exact List.getElem?_eq_getElem (by omega))
        exact ⟨h1, x, hx⟩
      unfold Instr.checkKey
      simp only [Sem.run_bind, run_und hu, Result.andThen_ok, Std.Legacy.Range.forIn_eq_forIn_range', Std.Legacy.Range.size, Nat.sub_zero, Nat.add_sub_cancel, Nat.div_one]
      rw [checkKeys_run (n := 9998) (xs := xs) (l := List.range' 0 a) (e := e) hel hsz ?_]
      · rfl
      intro i hi
      have hi : i < a := by simpa using hi
      have hag : aggSz P el = some none := by simp [aggSz, isAggT, hel, hsz, aggD]
      obtain ⟨x, hx, _⟩ := partV_ok (w := w) (P := P) (t := el) (off := i * 1) (v := l[i]) hl (by
        unfold partV
        rw [hag]
        show nth (i * 1) l = some l[i]
        rw [Nat.mul_one, nth_eq]
        exact List.getElem?_eq_getElem (by omega))
      exact ⟨x, hx⟩
    · have hf : onAgg k (fun l => Nat.beq (lenL l) a) false = true := hf
      rw [he] at hf; exact nomatch hf

theorem keyEq_ok (hp : PcR c.ρ p) {t : TypeId} {d : TypeDesc} (hu : P.underlying t = some d) {x y : V} {X Y : Value} {v : Bool} (hx : VR c x X) (hy : VR c y Y) (h : (keyEq0 P t x y).gives c.ρ m p v q) :
    PcR c.ρ q ∧ Instr.sameNow d X Y = some v ∧ (v = true → Instr.sameBits 10000 Y X = true) := by
  unfold keyEq0 at h
  rw [hu] at h
  cases d <;> try exact (R.gives_fail (s := "keys") h).elim
  case bool =>
    obtain ⟨a, rfl, h1⟩ := onBool_gives (s := "") (show (onBool x (fun a => onBool y (fun b => (decR a).bnd fun u => (decR b).bnd fun v => R.pure (eqB u v)) (R.fail "")) (R.fail "")).gives c.ρ m p v q from h)
    obtain ⟨b, rfl, h2⟩ := onBool_gives h1
    obtain ⟨u, p1, h3, h4⟩ := R.gives_bnd h2
    obtain ⟨h5, h6⟩ := decR_gives hp h3
    obtain ⟨u', p2, h7, h8⟩ := R.gives_bnd h4
    obtain ⟨h9, h10⟩ := decR_gives h6 h7
    obtain ⟨rfl, rfl⟩ := R.gives_pure h8
    rw [VR.bool] at hx hy; subst hx hy
    rw [h5, h9]
    refine ⟨h10, ?_, ?_⟩
    · cases u <;> cases u' <;> rfl
    · cases u <;> cases u' <;> simp [eqB, notB, Instr.sameBits]
  case int kk =>
    obtain ⟨k, a, rfl, h1⟩ := onInt_gives (s := "") (show (onInt x (fun k a => onInt y (fun k' b => selB (Nat.beq (kindNo k) (kindNo k')) (decR (mkEq a b)) (R.fail "kinds")) (R.fail "")) (R.fail "")).gives c.ρ m p v q from h)
    obtain ⟨k', b, rfl, h2⟩ := onInt_gives h1
    obtain ⟨h3, h4⟩ := R.gives_if h2
    obtain ⟨h5, h6⟩ := decR_gives hp h4
    have := kindNo_inj h3; subst this
    rw [mkEq_den] at h5
    obtain ⟨rfl, _⟩ := VR.int.1 hx
    obtain ⟨rfl, _⟩ := VR.int.1 hy
    refine ⟨h6, by simp [Instr.sameNow, h5], fun hv => ?_⟩
    rw [hv] at h5
    have h5 : a.den c.ρ = b.den c.ρ := by simpa using h5
    simp [Instr.sameBits, h5]
  case string =>
    obtain ⟨a, rfl, h1⟩ := onStr_gives (s := "") (show (onStr x (fun a => onStr y (fun b => strEq a b) (R.fail "")) (R.fail "")).gives c.ρ m p v q from h)
    obtain ⟨b, rfl, h2⟩ := onStr_gives h1
    obtain ⟨s, rfl, hs⟩ := VR.str.1 hx
    obtain ⟨s', rfl, hs'⟩ := VR.str.1 hy
    obtain ⟨h3, h4⟩ := strEq_ok hp hs hs' h2
    refine ⟨h3, ?_, fun hv => ?_⟩
    · show some (s == s') = some v
      rw [beq_toListBytes, ByteArray.toList_eq, ByteArray.toList_eq, h4]
    · rw [hv] at h4
      have : s.data.toList = s'.data.toList := by simpa using h4.symm
      show (s' == s) = true
      rw [beq_toListBytes, ByteArray.toList_eq, ByteArray.toList_eq, this]; simp

/-- what a search found -/
def FoundR (pk : Bool) (es : List (V × V × Nat)) (es' : List MapEntry) (k : Value) (n : Nat) : Option (Nat × V) → Option (Nat × Value) → Prop
  | none, r => r = none
  | some a, r => ∃ (j : Nat) (e : V × V × Nat) (e' : MapEntry), a = (n + j, e.2.1) ∧ es[j]? = some e ∧ es'[j]? = some e' ∧ r = some (n + j, e'.val) ∧ (pk = true → Instr.sameBits 10000 e'.key k = true)

theorem FoundR.next {pk : Bool} {e : V × V × Nat} {e' : MapEntry} {es : List (V × V × Nat)} {es' : List MapEntry} {K : Value} {n : Nat} {r : Option (Nat × V)} {r' : Option (Nat × Value)} (h : FoundR pk es es' K (n + 1) r r') : FoundR pk (e :: es) (e' :: es') K n r r' := by
  cases r with
  | none => exact h
  | some a =>
    obtain ⟨j, u, u', rfl, b1, b2, rfl, b3⟩ := h
    exact ⟨j + 1, u, u', by simp; omega, by simpa using b1, by simpa using b2, by simp; omega, b3⟩

theorem EsR.uncons {e : V × V × Nat} {e' : MapEntry} {es : List (V × V × Nat)} {es' : List MapEntry} (he : EsR c (e :: es) (e' :: es')) : EsR c es es' ∧ VR c e.1 e'.key := by
  obtain ⟨e1, h1, h2, _⟩ := he.2 0 e (by simp)
  simp at h1; subst h1
  exact ⟨⟨by simpa using he.1, fun j u hu => by simpa using he.2 (j + 1) u (by simpa using hu)⟩, h2⟩

theorem findKey_ok {t : TypeId} {d : TypeDesc} (hu : P.underlying t = some d) (hna : keyArr P t = none) {k : V} {K : Value} (hk : VR c k K) : ∀ {es : List (V × V × Nat)} {es' : List MapEntry} {n : Nat} {p : Pc} {r : Option (Nat × V)}, PcR c.ρ p → EsR c es es' → (findKey P t k es n).gives c.ρ m p r q →
    PcR c.ρ q ∧ ∃ r', Instr.findNow d K es' n = some r' ∧ FoundR true es es' K n r r'
  | [], es', n, p, r, hp, he, h => by
    obtain ⟨rfl, rfl⟩ := R.gives_pure (show (R.pure none).gives c.ρ m p r q from h)
    have : es' = [] := List.eq_nil_of_length_eq_zero he.1
    subst this
    exact ⟨hp, none, rfl, rfl⟩
  | e :: es, es', n, p, r, hp, he, h => by
    cases es' with
    | nil => exact absurd he.1 (by simp)
    | cons e' es' =>
      obtain ⟨he', h2⟩ := he.uncons
      obtain ⟨v, p1, h5, h6⟩ := R.gives_bnd (show ((keyEq P t k e.1).bnd fun v => (Bool.rec (findKey P t k es (Nat.succ n)) (R.pure (some (n, e.2.1))) v : R (Option (Nat × V)))).gives c.ρ m p r q from h)
      have h5 : (keyEq0 P t k e.1).gives c.ρ m p v p1 := by
        have h5 : ((Option.rec (keyEq0 P t) (fun _ => eqIn P 10 t) (keyArr P t) : V → V → R Bool) k e.1).gives c.ρ m p v p1 := h5
        rw [hna] at h5; exact h5
      obtain ⟨h7, h8, h9⟩ := keyEq_ok hp hu hk h2 h5
      cases v
      · obtain ⟨h10, r', h11, h12⟩ := findKey_ok hu hna hk h7 he' (show (findKey P t k es (Nat.succ n)).gives c.ρ m p1 r q from h6)
        exact ⟨h10, r', by simp [Instr.findNow, h8]; exact h11, h12.next⟩
      · obtain ⟨rfl, rfl⟩ := R.gives_pure (show (R.pure (some (n, e.2.1))).gives c.ρ m p1 r q from h6)
        exact ⟨h7, some (n, e'.val), by simp [Instr.findNow, h8], 0, e, e', rfl, by simp, by simp, rfl, fun _ => h9 rfl⟩

theorem findAsk_ok (hm : MemR c m w) {t : TypeId} {a : Nat} (ha : keyArr P t = some a) {k : V} {K : Value} (hk : VR c k K) : ∀ {es : List (V × V × Nat)} {es' : List MapEntry} {n : Nat} {p : Pc} {r : Option (Nat × V)}, PcR c.ρ p → EsR c es es' → (findKey P t k es n).gives c.ρ m p r q →
    PcR c.ρ q ∧ ∃ r', (Instr.findAsking t K es' n).run P w = .ok r' w ∧ FoundR false es es' K n r r'
  | [], es', n, p, r, hp, he, h => by
    obtain ⟨rfl, rfl⟩ := R.gives_pure (show (R.pure none).gives c.ρ m p r q from h)
    have : es' = [] := List.eq_nil_of_length_eq_zero he.1
    subst this
    exact ⟨hp, none, by simp [Instr.findAsking], rfl⟩
  | e :: es, es', n, p, r, hp, he, h => by
    cases es' with
    | nil => exact absurd he.1 (by simp)
    | cons e' es' =>
      obtain ⟨he', h2⟩ := he.uncons
      obtain ⟨v, p1, h5, h6⟩ := R.gives_bnd (show ((keyEq P t k e.1).bnd fun v => (Bool.rec (findKey P t k es (Nat.succ n)) (R.pure (some (n, e.2.1))) v : R (Option (Nat × V)))).gives c.ρ m p r q from h)
      have h5 : (eqIn P 10 t k e.1).gives c.ρ m p v p1 := by
        have h5 : ((Option.rec (keyEq0 P t) (fun _ => eqIn P 10 t) (keyArr P t) : V → V → R Bool) k e.1).gives c.ρ m p v p1 := h5
        rw [ha] at h5; exact h5
      obtain ⟨h7, h8⟩ := eqIn_ok hm 10 t k e.1 K e'.key p p1 v hp hk h2 h5
      have h9 : (Op.equal t K e'.key).run P w = .ok v w := h8 _ (by decide)
      cases v
      · obtain ⟨h10, r', h11, h12⟩ := findAsk_ok hm ha hk h7 he' (show (findKey P t k es (Nat.succ n)).gives c.ρ m p1 r q from h6)
        exact ⟨h10, r', by simp [Instr.findAsking, h9]; exact h11, h12.next⟩
      · obtain ⟨rfl, rfl⟩ := R.gives_pure (show (R.pure (some (n, e.2.1))).gives c.ρ m p1 r q from h6)
        exact ⟨h7, some (n, e'.val), by simp [Instr.findAsking, h9], 0, e, e', rfl, by simp, by simp, rfl, fun hb => nomatch hb⟩

theorem run_findKey {t : TypeId} {d : TypeDesc} (hu : P.underlying t = some d) {K : Value} {es : List MapEntry} {r : Option (Nat × Value)} (h : Instr.findNow d K es 0 = some r) : (Instr.findKey t K es).run P w = .ok r w := by
  simp [Instr.findKey, run_und hu, h]

theorem run_findArr {t : TypeId} {n : Nat} (ha : keyArr P t = some n) {K : Value} {es : List MapEntry} : (Instr.findKey t K es).run P w = (Instr.findAsking t K es).run P w := by
  obtain ⟨d, hu, hd⟩ := keyArr_some ha
  rcases hd with ⟨e, rfl, _⟩ | ⟨fs, rfl, _⟩ <;>
  · cases es with
    | nil => simp [Instr.findKey, Instr.findNow, Instr.findAsking, run_und hu]
    | cons e es => simp [Instr.findKey, Instr.findNow, Instr.sameNow, run_und hu]

/-- the search for a key -/
theorem findAll_ok (hm : MemR c m w) (hp : PcR c.ρ p) {t : TypeId} (ht : keyOK P t = true) {k : V} {K : Value} (hk : VR c k K) {es : List (V × V × Nat)} {es' : List MapEntry} {r : Option (Nat × V)} (he : EsR c es es') (h : (findKey P t k es 0).gives c.ρ m p r q) :
    PcR c.ρ q ∧ ∃ r', (Instr.findKey t K es').run P w = .ok r' w ∧ FoundR (plainK P t) es es' K 0 r r' := by
  cases hpl : plainK P t with
  | true =>
    obtain ⟨d, hd, _⟩ := plainK_some hpl
    obtain ⟨h1, r', h2, h3⟩ := findKey_ok hd (plain_noArr hpl) hk hp he h
    exact ⟨h1, r', run_findKey hd h2, h3⟩
  | false =>
    rcases keyOK_cases ht with h0 | ⟨a, ha⟩
    · rw [hpl] at h0; exact nomatch h0
    · obtain ⟨h1, r', h2, h3⟩ := findAsk_ok hm ha hk hp he h
      exact ⟨h1, r', by rw [run_findArr ha]; exact h2, h3⟩

theorem FoundR.val {pk : Bool} {es : List (V × V × Nat)} {es' : List MapEntry} {k : Value} {a : Nat × V} {r : Option (Nat × Value)} (he : EsR c es es') (h : FoundR pk es es' k 0 (some a) r) : ∃ x, r = some (a.1, x) ∧ VR c a.2 x := by
  obtain ⟨j, e, e', rfl, h1, h2, rfl, _⟩ := h
  obtain ⟨e1, h3, _, h4, _⟩ := he.2 j e h1
  rw [h2] at h3; simp at h3; subst h3
  exact ⟨e'.val, rfl, h4⟩

theorem okV_ok {ok is : Bool} {x v : V} {X : Value} (hx : VR c x X) (h : (okV ok x is).gives c.ρ m p v q) : q = p ∧ VR c v (if ok then .tuple #[X, .bool is] else X) := by
  obtain ⟨rfl, rfl⟩ := R.gives_pure (show (R.pure (selB ok (.tuple [x, .bool (.lit is)]) x)).gives c.ρ m p v q from h)
  cases ok
  · exact ⟨rfl, hx⟩
  · exact ⟨rfl, VR.tuple.2 ⟨_, rfl, VRs.cons hx (VRs.cons VR.lit VRs.nil)⟩⟩

/-- what the model says of two keys -/
def cmpK (P : Program) (kt : TypeId) (w : World) (A B : Value) (v : Bool) : Prop :=
  (∃ d, P.underlying kt = some d ∧ keyArr P kt = none ∧ Instr.sameNow d A B = some v) ∨ ((keyArr P kt).isSome = true ∧ (Op.equal kt A B).run P w = .ok v w)

theorem cmpK.one {kt : TypeId} {A B : Value} {v v' : Bool} (h : cmpK P kt w A B v) (h' : cmpK P kt w A B v') : v = v' := by
  rcases h with ⟨d, h1, h2, h3⟩ | ⟨h1, h2⟩ <;> rcases h' with ⟨d', k1, k2, k3⟩ | ⟨k1, k2⟩
  · rw [h1] at k1; obtain rfl := Option.some.inj k1
    rw [h3] at k3; exact Option.some.inj k3
  · rw [h2] at k1; exact nomatch k1
  · rw [k2] at h1; exact nomatch h1
  · rw [h2] at k2; simpa using k2

theorem cmpK_of (hm : MemR c m w) (hp : PcR c.ρ p) {kt : TypeId} (ht : keyOK P kt = true) {k e : V} {K E : Value} {v : Bool} (hk : VR c k K) (he : VR c e E) (h : (keyEq P kt k e).gives c.ρ m p v q) : PcR c.ρ q ∧ cmpK P kt w K E v := by
  have h : ((Option.rec (keyEq0 P kt) (fun _ => eqIn P 10 kt) (keyArr P kt) : V → V → R Bool) k e).gives c.ρ m p v q := h
  cases hpl : plainK P kt with
  | true =>
    obtain ⟨d, hd, _⟩ := plainK_some hpl
    have hna := plain_noArr hpl
    rw [hna] at h
    obtain ⟨h7, h8, _⟩ := keyEq_ok hp hd hk he (show (keyEq0 P kt k e).gives c.ρ m p v q from h)
    exact ⟨h7, .inl ⟨d, hd, hna, h8⟩⟩
  | false =>
    rcases keyOK_cases ht with h0 | ⟨a, ha⟩
    · rw [hpl] at h0; exact nomatch h0
    · rw [ha] at h
      obtain ⟨h7, h8⟩ := eqIn_ok hm 10 kt k e K E p q v hp hk he (show (eqIn P 10 kt k e).gives c.ρ m p v q from h)
      exact ⟨h7, .inr ⟨by rw [ha]; rfl, h8 _ (by decide)⟩⟩

theorem findNow_cmp {d : TypeDesc} {K : Value} : ∀ {es : List MapEntry} {n : Nat}, (∀ e ∈ es, ∃ v, Instr.sameNow d K e.key = some v) →
    ∃ r, Instr.findNow d K es n = some r ∧ (r = none ∧ (∀ e ∈ es, Instr.sameNow d K e.key = some false) ∨ ∃ i e, e ∈ es ∧ Instr.sameNow d K e.key = some true ∧ r = some (i, e.val))
  | [], n, _ => ⟨none, rfl, .inl ⟨rfl, fun _ h => (nomatch h)⟩⟩
  | e :: es, n, h => by
    obtain ⟨v, hv⟩ := h e (.head _)
    cases v with
    | true => exact ⟨some (n, e.val), by simp [Instr.findNow, hv], .inr ⟨n, e, .head _, hv, rfl⟩⟩
    | false =>
      obtain ⟨r, h1, h2⟩ := findNow_cmp (es := es) (n := n + 1) fun x hx => h x (.tail _ hx)
      refine ⟨r, by simp [Instr.findNow, hv, h1], ?_⟩
      rcases h2 with ⟨h2, h3⟩ | ⟨i, x, h2, h3, h4⟩
      · refine .inl ⟨h2, fun x hx => ?_⟩
        cases hx with
        | head => exact hv
        | tail _ hx => exact h3 x hx
      · exact .inr ⟨i, x, .tail _ h2, h3, h4⟩

theorem findAsk_cmp {t : TypeId} {K : Value} : ∀ {es : List MapEntry} {n : Nat}, (∀ e ∈ es, ∃ v, (Op.equal t K e.key).run P w = .ok v w) →
    ∃ r, (Instr.findAsking t K es n).run P w = .ok r w ∧ (r = none ∧ (∀ e ∈ es, (Op.equal t K e.key).run P w = .ok false w) ∨ ∃ i e, e ∈ es ∧ (Op.equal t K e.key).run P w = .ok true w ∧ r = some (i, e.val))
  | [], n, _ => ⟨none, by simp [Instr.findAsking], .inl ⟨rfl, fun _ h => (nomatch h)⟩⟩
  | e :: es, n, h => by
    obtain ⟨v, hv⟩ := h e (.head _)
    cases v with
    | true => exact ⟨some (n, e.val), by simp [Instr.findAsking, hv], .inr ⟨n, e, .head _, hv, rfl⟩⟩
    | false =>
      obtain ⟨r, h1, h2⟩ := findAsk_cmp (es := es) (n := n + 1) fun x hx => h x (.tail _ hx)
      refine ⟨r, by simp [Instr.findAsking, hv, h1], ?_⟩
      rcases h2 with ⟨h2, h3⟩ | ⟨i, x, h2, h3, h4⟩
      · refine .inl ⟨h2, fun x hx => ?_⟩
        cases hx with
        | head => exact hv
        | tail _ hx => exact h3 x hx
      · exact .inr ⟨i, x, .tail _ h2, h3, h4⟩

/-- the search of a key, where what the model says of all keys is known -/
theorem find_cmp {kt : TypeId} (ht : keyOK P kt = true) {K : Value} {es : List MapEntry} (h : ∀ e ∈ es, ∃ v, cmpK P kt w K e.key v) :
    ∃ r, (Instr.findKey kt K es).run P w = .ok r w ∧ (r = none ∧ (∀ e ∈ es, cmpK P kt w K e.key false) ∨ ∃ i e, e ∈ es ∧ cmpK P kt w K e.key true ∧ r = some (i, e.val)) := by
  cases hpl : plainK P kt with
  | true =>
    obtain ⟨d, hd, _⟩ := plainK_some hpl
    have hna := plain_noArr hpl
    have h' : ∀ e ∈ es, ∃ v, Instr.sameNow d K e.key = some v := fun e he => by
      obtain ⟨v, h1⟩ := h e he
      rcases h1 with ⟨d', h1, _, h3⟩ | ⟨h1, _⟩
      · rw [hd] at h1; obtain rfl := Option.some.inj h1; exact ⟨v, h3⟩
      · rw [hna] at h1; exact nomatch h1
    obtain ⟨r, h1, h2⟩ := findNow_cmp (n := 0) h'
    refine ⟨r, run_findKey hd h1, ?_⟩
    rcases h2 with ⟨h2, h3⟩ | ⟨i, x, h2, h3, h4⟩
    · exact .inl ⟨h2, fun e he => .inl ⟨d, hd, hna, h3 e he⟩⟩
    · exact .inr ⟨i, x, h2, .inl ⟨d, hd, hna, h3⟩, h4⟩
  | false =>
    rcases keyOK_cases ht with h0 | ⟨a, ha⟩
    · rw [hpl] at h0; exact nomatch h0
    · have h' : ∀ e ∈ es, ∃ v, (Op.equal kt K e.key).run P w = .ok v w := fun e he => by
        obtain ⟨v, h1⟩ := h e he
        rcases h1 with ⟨d', _, h1, _⟩ | ⟨_, h1⟩
        · rw [ha] at h1; exact nomatch h1
        · exact ⟨v, h1⟩
      obtain ⟨r, h1, h2⟩ := findAsk_cmp (n := 0) h'
      have hs : (keyArr P kt).isSome = true := by rw [ha]; rfl
      refine ⟨r, by rw [run_findArr ha]; exact h1, ?_⟩
      rcases h2 with ⟨h2, h3⟩ | ⟨i, x, h2, h3, h4⟩
      · exact .inl ⟨h2, fun e he => .inr ⟨hs, h3 e he⟩⟩
      · exact .inr ⟨i, x, h2, .inr ⟨hs, h3⟩, h4⟩

theorem findPm_ok (hm : MemR c m w) {kt : TypeId} (ht : keyOK P kt = true) {k : V} {K : Value} (hk : VR c k K) : ∀ {es : List (V × V)} {l : List MapEntry} {p q : Pc} {r : Option V}, PcR c.ρ p → KvR c es l → (findPm P kt k es).gives c.ρ m p r q →
    PcR c.ρ q ∧ (∀ e ∈ l, ∃ v, cmpK P kt w K e.key v) ∧ (r = none → ∀ e ∈ l, cmpK P kt w K e.key false) ∧ ∀ x, r = some x → (∃ e ∈ l, cmpK P kt w K e.key true) ∧ ∀ e ∈ l, cmpK P kt w K e.key true → VR c x e.val
  | [], [], p, q, r, hp, _, h => by
    obtain ⟨rfl, rfl⟩ := R.gives_pure (show (R.pure none).gives c.ρ m p r q from h)
    exact ⟨hp, fun _ h => (nomatch h), fun _ _ h => (nomatch h), fun x hx => (nomatch hx)⟩
  | e :: es, e' :: l, p, q, r, hp, ⟨h1, h2, h3⟩, h => by
    obtain ⟨v, p1, h4, h5⟩ := R.gives_bnd (show ((keyEq P kt k e.1).bnd fun v => (findPm P kt k es).bnd fun r => (Bool.rec (R.pure r) (Option.rec (R.pure (some e.2)) (fun _ => R.fail "lookup two") r) v : R (Option V))).gives c.ρ m p r q from h)
    obtain ⟨hp1, hc⟩ := cmpK_of hm hp ht hk h1 h4
    obtain ⟨r1, p2, h6, h7⟩ := R.gives_bnd h5
    obtain ⟨hp2, i1, i2, i3⟩ := findPm_ok hm ht hk hp1 h3 h6
    cases v with
    | false =>
      obtain ⟨rfl, rfl⟩ := R.gives_pure (show (R.pure r1).gives c.ρ m p2 r q from h7)
      refine ⟨hp2, fun x hx => ?_, fun hr x hx => ?_, fun x hx => ?_⟩
      · cases hx with
        | head => exact ⟨_, hc⟩
        | tail _ hx => exact i1 x hx
      · cases hx with
        | head => exact hc
        | tail _ hx => exact i2 hr x hx
      · obtain ⟨⟨u, hu, hut⟩, j2⟩ := i3 x hx
        refine ⟨⟨u, .tail _ hu, hut⟩, fun y hy hyt => ?_⟩
        cases hy with
        | head => exact nomatch hc.one hyt
        | tail _ hy => exact j2 y hy hyt
    | true =>
      cases r1 with
      | some y => exact (R.gives_fail (s := "lookup two") h7).elim
      | none =>
        obtain ⟨rfl, rfl⟩ := R.gives_pure (show (R.pure (some e.2)).gives c.ρ m p2 r q from h7)
        refine ⟨hp2, fun x hx => ?_, fun hr => (nomatch hr), fun x hx => ?_⟩
        · cases hx with
          | head => exact ⟨_, hc⟩
          | tail _ hx => exact i1 x hx
        · obtain rfl := Option.some.inj hx
          refine ⟨⟨e', .head _, hc⟩, fun y hy hyt => ?_⟩
          cases hy with
          | head => exact h2
          | tail _ hy => exact nomatch (i2 rfl y hy).one hyt
  | [], _ :: _, _, _, _, _, h, _ => h.elim
  | _ :: _, [], _, _, _, _, h, _ => h.elim

/-- what a lookup is made of -/
def LookR (P : Program) (c : Cx) (w : World) (a : TypeId × TypeId) (ok : Bool) (X K : Value) (v : V) : Prop :=
  ∃ (es' : Array MapEntry) (r' : Option (Nat × Value)), (X = .map none ∧ es' = #[] ∨ ∃ b kk, X = .map (some b) ∧ w.heap[b]? = some (.map es' kk)) ∧ (Instr.findKey a.1 K es'.toList).run P w = .ok r' w ∧
    ∃ z b, (r' = none ∧ b = false ∧ (zeroValue a.2).run P w = .ok z w ∨ ∃ i, r' = some (i, z) ∧ b = true) ∧ VR c v (if ok then .tuple #[z, .bool b] else z)

theorem lookE_ok (hm : MemR c m w) (hp : PcR c.ρ p) {a : TypeId × TypeId} {ok : Bool} {x k v : V} {X K : Value} (hpl : keyOK P a.1 = true) (hx : VR c x X) (hk : VR c k K) (h : (lookE P a ok x k).gives c.ρ m p v q) :
    PcR c.ρ q ∧ LookR P c w a ok X K v := by
    obtain ⟨es, p1, h1, h2⟩ := R.gives_bnd (show ((entriesR x).bnd fun es => (findKey P a.1 k es 0).bnd fun r => foundR P a.2 ok r).gives c.ρ m p v q from h)
    obtain ⟨r, p2, h3, h4⟩ := R.gives_bnd h2
    clear h h2
    have hent : p1 = p ∧ ∃ es' : Array MapEntry, EsR c es es'.toList ∧ (X = .map none ∧ es' = #[] ∨ ∃ b kk, X = .map (some b) ∧ w.heap[b]? = some (.map es' kk)) := by
      cases x <;> try exact (R.gives_fail (s := "no map") h1).elim
      case nilMap =>
        obtain ⟨rfl, rfl⟩ := R.gives_pure (show (R.pure []).gives c.ρ m p es p1 from h1)
        rw [VR.nilMap] at hx; subst hx
        exact ⟨rfl, #[], ⟨rfl, by simp⟩, .inl ⟨rfl, rfl⟩⟩
      case map i =>
        obtain ⟨es1, kk, wr, hb, h5⟩ := onMapB_gives (show T.out c.ρ (onMapB (m.tr.get i) (fun es _ _ => T.ret (⟨es, p⟩ : Rp (List (V × V × Nat)))) (T.fail "no map")) = some ⟨es, p1⟩ from h1)
        simp [T.out] at h5
        obtain ⟨rfl, rfl⟩ := h5
        obtain ⟨_, es', h6, h7⟩ := hm.blk i _ hb
        obtain ⟨_, rfl⟩ := VR.map.1 hx
        exact ⟨rfl, es', h7, .inr ⟨_, kk, rfl, h6⟩⟩
    obtain ⟨rfl, es', he, hX⟩ := hent
    obtain ⟨hp2, r', h5, h6⟩ := findAll_ok hm hp hpl hk he h3
    have hfin : q = p2 ∧ ∃ z b, (r' = none ∧ b = false ∧ (zeroValue a.2).run P w = .ok z w ∨ ∃ i, r' = some (i, z) ∧ b = true) ∧ VR c v (if ok then .tuple #[z, .bool b] else z) := by
      cases r with
      | none =>
        have h6 : r' = none := h6
        subst h6
        obtain ⟨z, p3, h7, h8⟩ := R.gives_bnd (show ((R.opt "zero" (zeroOf P a.2)).bnd fun z => okV ok z false).gives c.ρ m p2 v q from h4)
        obtain ⟨h9, rfl⟩ := R.gives_opt h7
        obtain ⟨i, zv, _, _, h10, h11⟩ := zeroOf_ok h9
        obtain ⟨rfl, h12⟩ := okV_ok (h10 c) h8
        exact ⟨rfl, zv, false, .inl ⟨rfl, rfl, h11 w⟩, h12⟩
      | some a' =>
        obtain ⟨y, rfl, hy⟩ := h6.val he
        obtain ⟨rfl, h12⟩ := okV_ok hy (show (okV ok a'.2 true).gives c.ρ m p2 v q from h4)
        exact ⟨rfl, y, true, .inr ⟨_, rfl, rfl⟩, h12⟩
    obtain ⟨rfl, hz⟩ := hfin
    exact ⟨hp2, es', r', hX, h5, hz⟩

theorem lookP_ok (hm : MemR c m w) (hp : PcR c.ρ p) {a : TypeId × TypeId} {ok : Bool} {k v : V} {X K : Value} (hpl : keyOK P a.1 = true) {i : Nat} {es : List (V × V)} {wr : Bool} (hb : m.tr.get i = some (.pm es wr)) (hx : VR c (.map i) X) (hk : VR c k K)
    (h : ((findPm P a.1 k es).bnd fun r => foundP P a.2 ok r).gives c.ρ m p v q) : PcR c.ρ q ∧ LookR P c w a ok X K v := by
  obtain ⟨r, p2, h3, h4⟩ := R.gives_bnd h
  obtain ⟨_, es', kk, h6, l', hperm, hkv⟩ := hm.blk i _ hb
  obtain ⟨_, rfl⟩ := VR.map.1 hx
  obtain ⟨hp2, i1, i2, i3⟩ := findPm_ok hm hpl hk hp hkv h3
  have hmem : ∀ e, e ∈ es'.toList → e ∈ l' := fun e he => hperm.mem_iff.2 he
  obtain ⟨r', h7, h8⟩ := find_cmp hpl (es := es'.toList) fun e he => i1 e (hmem e he)
  have hfin : q = p2 ∧ ∃ z b, (r' = none ∧ b = false ∧ (zeroValue a.2).run P w = .ok z w ∨ ∃ i, r' = some (i, z) ∧ b = true) ∧ VR c v (if ok then .tuple #[z, .bool b] else z) := by
    cases r with
    | none =>
      have hr : r' = none := by
        rcases h8 with ⟨h8, _⟩ | ⟨j, e, h9, h10, _⟩
        · exact h8
        · exact nomatch h10.one (i2 rfl e (hmem e h9))
      subst hr
      obtain ⟨z, p3, h9, h10⟩ := R.gives_bnd (show ((R.opt "zero" (zeroOf P a.2)).bnd fun z => okV ok z false).gives c.ρ m p2 v q from h4)
      obtain ⟨h11, rfl⟩ := R.gives_opt h9
      obtain ⟨_, zv, _, _, h12, h13⟩ := zeroOf_ok h11
      obtain ⟨rfl, h14⟩ := okV_ok (h12 c) h10
      exact ⟨rfl, zv, false, .inl ⟨rfl, rfl, h13 w⟩, h14⟩
    | some x =>
      obtain ⟨⟨u, hu, hut⟩, j2⟩ := i3 x rfl
      rcases h8 with ⟨_, h9⟩ | ⟨j, e, h9, h10, rfl⟩
      · exact nomatch (h9 u (hperm.mem_iff.1 hu)).one hut
      · obtain ⟨rfl, h12⟩ := okV_ok (j2 e (hmem e h9) h10) (show (okV ok x true).gives c.ρ m p2 v q from h4)
        exact ⟨rfl, e.val, true, .inr ⟨j, rfl, rfl⟩, h12⟩
  obtain ⟨rfl, hz⟩ := hfin
  exact ⟨hp2, es', r', .inr ⟨_, kk, rfl, h6⟩, h7, hz⟩

theorem lookupR_ok (hm : MemR c m w) (hp : PcR c.ρ p) {t : TypeId} {ok : Bool} {x k v : V} {X K : Value} (hx : VR c x X) (hk : VR c k K) (h : (lookupR P t ok x k).gives c.ρ m p v q) :
    PcR c.ρ q ∧ ∃ z, (Instr.lookup t X K ok).run P w = .ok z w ∧ VR c v z := by
  unfold lookupR at h
  cases ha : mapOf P t with
  | none => rw [ha] at h; exact (R.gives_fail h).elim
  | some a =>
    rw [ha] at h
    obtain ⟨hu, hpl⟩ := mapOf_some ha
    obtain ⟨hfit, h⟩ := R.gives_if (show (selB (keyFit P a.1 k) (lookM P a ok x k) (R.fail "lookup")).gives c.ρ m p v q from h)
    have hcore : PcR c.ρ q ∧ LookR P c w a ok X K v := by
      have h : (onMap x (fun i => onPm (m.tr.get i) (fun es _ => ((findPm P a.1 k es).bnd fun r => foundP P a.2 ok r) m p) (lookE P a ok x k m p)) (lookE P a ok x k m p)).out c.ρ = some ⟨v, q⟩ := h
      rcases onMap_cases x (fun i => onPm (m.tr.get i) (fun es _ => ((findPm P a.1 k es).bnd fun r => foundP P a.2 ok r) m p) (lookE P a ok x k m p)) (lookE P a ok x k m p) with ⟨i, rfl, he⟩ | he <;> rw [he] at h
      · rcases onPm_cases (b := m.tr.get i) (fun es _ => ((findPm P a.1 k es).bnd fun r => foundP P a.2 ok r) m p) (lookE P a ok (.map i) k m p) with ⟨es, wr, hb, he⟩ | he <;> rw [he] at h
        · exact lookP_ok hm hp hpl hb hx hk h
        · exact lookE_ok hm hp hpl hx hk h
      · exact lookE_ok hm hp hpl hx hk h
    obtain ⟨hp2, es', r', hX, h5, z, b, h7, h8⟩ := hcore
    refine ⟨hp2, _, ?_, h8⟩
    unfold Instr.lookup
    rcases hX with ⟨rfl, rfl⟩ | ⟨b', kk, rfl, hg⟩
    · rcases h7 with ⟨rfl, rfl, h7⟩ | ⟨i, rfl, rfl⟩
      · simp only [Sem.run_bind, run_und hu, Result.andThen_ok, Sem.run_pure, checkKey_ok hpl hk hfit, h5, h7]
      · simp only [Sem.run_bind, run_und hu, Result.andThen_ok, Sem.run_pure, checkKey_ok hpl hk hfit, h5]
    · have hg : (getObj b').run P w = .ok (.map es' kk) w := run_getObj hg
      rcases h7 with ⟨rfl, rfl, h7⟩ | ⟨i, rfl, rfl⟩
      · simp only [Sem.run_bind, run_und hu, Result.andThen_ok, Sem.run_pure, checkKey_ok hpl hk hfit, h5, h7, hg]
      · simp only [Sem.run_bind, run_und hu, Result.andThen_ok, Sem.run_pure, checkKey_ok hpl hk hfit, h5, hg]

/-! ### assertions -/

theorem assertNo_ok {t : TypeId} {ok : Bool} {v : V} (h : (assertNo P t ok).gives c.ρ m p v q) : q = p ∧ ok = true ∧ ∃ z, (zeroValue t).run P w = .ok z w ∧ VR c v (.tuple #[z, .bool false]) := by
  obtain ⟨h1, h2⟩ := R.gives_if (show (selB ok ((R.opt "zero" (zeroOf P t)).bnd fun z => R.pure (.tuple [z, .bool (.lit false)])) (R.fail "type assertion")).gives c.ρ m p v q from h)
  obtain ⟨z, p1, h3, h4⟩ := R.gives_bnd h2
  obtain ⟨h5, rfl⟩ := R.gives_opt h3
  obtain ⟨rfl, rfl⟩ := R.gives_pure h4
  obtain ⟨i, zv, _, _, h10, h11⟩ := zeroOf_ok h5
  exact ⟨rfl, h1, zv, h11 w, VR.tuple.2 ⟨_, rfl, VRs.cons (h10 c) (VRs.cons VR.lit VRs.nil)⟩⟩

theorem meets_some {t u : TypeId} {ms : Array (String × TypeId)} {b : Bool} (h : meets P ms u = some b) : ∃ i, P.info? u = some i ∧ (Instr.missingMethod ms i.methods).isNone = b := by
  have _ := t
  unfold meets at h
  split at h
  · rename_i i hi
    split at h <;> rename_i hmm <;> simp at h <;> subst h <;> exact ⟨i, hi, by simp [hmm]⟩
  · simp at h

theorem assertR_ok {t xt : TypeId} {ok : Bool} {x v : V} {X : Value} (hx : VR c x X) (h : (assertR P t ok x).gives c.ρ m p v q) :
    q = p ∧ ∃ z, (Instr.typeAssert X xt t ok).run P w = .ok z w ∧ VR c v z := by
  cases x <;> try exact (R.gives_fail (s := "type assertion") h).elim
  case nilIface =>
    rw [VR.nilIface] at hx; subst hx
    obtain ⟨h1, h2⟩ := R.gives_if (show (selB (hasT P t) (assertNo P t ok) (R.fail "type assertion")).gives c.ρ m p v q from h)
    obtain ⟨d, hu⟩ := hasT_iff h1
    obtain ⟨rfl, rfl, z, h3, h4⟩ := assertNo_ok (w := w) h2
    refine ⟨rfl, _, ?_, h4⟩
    cases d <;> simp [Instr.typeAssert, run_und hu, h3]
  case iface u y =>
    obtain ⟨Y, rfl, hy⟩ := VR.iface.1 hx
    have hk : (Option.rec (selB (hasT P t) (assertIs P t ok y (some (Nat.beq u t))) (R.fail "type assertion")) (fun w => assertIs P t ok (.iface u y) (meets P w u)) (wantsOf P t) : R V).gives c.ρ m p v q := h
    clear h
    cases hw : wantsOf P t with
    | none =>
      rw [hw] at hk
      obtain ⟨h1, h2⟩ := R.gives_if (show (selB (hasT P t) (assertIs P t ok y (some (Nat.beq u t))) (R.fail "type assertion")).gives c.ρ m p v q from hk)
      obtain ⟨d, hu⟩ := hasT_iff h1
      have hni := wantsOf_none hw
      cases hut : Nat.beq u t with
      | true =>
        rw [hut] at h2
        obtain ⟨rfl, h3⟩ := okV_ok hy (show (okV ok y true).gives c.ρ m p v q from h2)
        rw [beq_iff] at hut; subst hut
        refine ⟨rfl, _, ?_, h3⟩
        cases d <;> first | exact absurd hu (hni _) | simp [Instr.typeAssert, run_und hu]
      | false =>
        rw [hut] at h2
        obtain ⟨rfl, rfl, z, h3, h4⟩ := assertNo_ok (w := w) (show (assertNo P t ok).gives c.ρ m p v q from h2)
        rw [beq_false] at hut
        refine ⟨rfl, _, ?_, h4⟩
        cases d <;> first | exact absurd hu (hni _) | simp [Instr.typeAssert, run_und hu, hut, h3]
    | some ws =>
      rw [hw] at hk
      have hu := wantsOf_some hw
      cases hmt : meets P ws u with
      | none => simp only [hmt] at hk; exact (R.gives_fail (s := "type assertion") hk).elim
      | some b =>
        simp only [hmt] at hk
        obtain ⟨i, hi, hb⟩ := meets_some (t := t) hmt
        cases b
        · obtain ⟨rfl, rfl, z, h3, h4⟩ := assertNo_ok (w := w) (show (assertNo P t ok).gives c.ρ m p v q from hk)
          refine ⟨rfl, _, ?_, h4⟩
          cases hmm : Instr.missingMethod ws i.methods with
          | none => rw [hmm] at hb; simp at hb
          | some s => simp [Instr.typeAssert, run_und hu, run_info hi, hmm, h3]
        · obtain ⟨rfl, h3⟩ := okV_ok hx (show (okV ok (.iface u y) true).gives c.ρ m p v q from hk)
          refine ⟨rfl, _, ?_, h3⟩
          cases hmm : Instr.missingMethod ws i.methods with
          | none => simp [Instr.typeAssert, run_und hu, run_info hi, hmm]
          | some s => rw [hmm] at hb; simp at hb
end ops

end Go.Sy

/-
  What is proved here: the evaluator's built values are those of the model.
  Conditions: none.
-/
namespace Go.Sy

section ops
variable {P : Program} {c : Cx} {m : Mem} {w : World} {p q : Pc}

theorem over0_ok {α : Type} : ∀ {vs l r : List α}, over0 vs l = some r → vs.length ≤ l.length ∧ r = vs ++ l.drop vs.length
  | [], l, r, h => by
    have h : some l = some r := h
    simp at h; subst h; simp
  | v :: vs, [], r, h => by
    have h : none = some r := h
    simp at h
  | v :: vs, a :: l, r, h => by
    have h : (Option.rec none (fun q => some (v :: q)) (over0 vs l) : Option (List α)) = some r := h
    cases hq : over0 vs l with
    | none => rw [hq] at h; simp at h
    | some q =>
      rw [hq] at h
      have h : some (v :: q) = some r := h
      simp at h; subst h
      obtain ⟨h1, h2⟩ := over0_ok hq
      exact ⟨by simpa using h1, by simp [h2]⟩

theorem over_ok {α : Type} : ∀ {o : Nat} {vs l r : List α}, over o vs l = some r → o + vs.length ≤ l.length ∧ r = l.take o ++ vs ++ l.drop (o + vs.length)
  | 0, vs, l, r, h => by
    obtain ⟨h1, h2⟩ := over0_ok (show over0 vs l = some r from h)
    exact ⟨by omega, by simp [h2]⟩
  | o + 1, vs, [], r, h => by
    have h : none = some r := h
    simp at h
  | o + 1, vs, a :: l, r, h => by
    have h : (Option.rec none (fun q => some (a :: q)) (over o vs l) : Option (List α)) = some r := h
    cases hq : over o vs l with
    | none => rw [hq] at h; simp at h
    | some q =>
      rw [hq] at h
      have h : some (a :: q) = some r := h
      simp at h; subst h
      obtain ⟨h1, h2⟩ := over_ok hq
      refine ⟨by simp; omega, ?_⟩
      have : o + 1 + vs.length = (o + vs.length) + 1 := by omega
      rw [h2, this]; simp

theorem fold_set (off : Nat) : ∀ (L : List Value) (i : Nat) (cs : Array Value), off + i + L.length ≤ cs.size →
    ((L.zipIdx i).foldl (fun (cs : Array Value) (x : Value × Nat) => cs.setIfInBounds (off + x.2) x.1) cs).toList = cs.toList.take (off + i) ++ L ++ cs.toList.drop (off + i + L.length)
  | [], i, cs, _ => by simp
  | v :: L, i, cs, h => by
    simp only [List.zipIdx_cons, List.foldl_cons]
    rw [fold_set off L (i + 1) (cs.setIfInBounds (off + i) v) (by simp at h ⊢; omega)]
    have e := list_seg_step cs.toList (off + i) v L (by simp at h ⊢; omega)
    simpa [Array.toList_setIfInBounds, Nat.add_assoc] using e

theorem VRs.take {l : List V} {xs : List Value} (n : Nat) (h : VRs c l xs) : VRs c (l.take n) (xs.take n) := by
  have hl := h.length
  refine VRs.of_get (by simp [hl]) fun j v hv => ?_
  rw [List.getElem?_take] at hv
  split at hv
  · obtain ⟨x, hx, hr⟩ := h.get hv
    exact ⟨x, by rw [List.getElem?_take, if_pos (by assumption)]; exact hx, hr⟩
  · simp at hv

theorem VRs.drop {l : List V} {xs : List Value} (n : Nat) (h : VRs c l xs) : VRs c (l.drop n) (xs.drop n) := by
  have hl := h.length
  refine VRs.of_get (by simp [hl]) fun j v hv => ?_
  rw [List.getElem?_drop] at hv
  obtain ⟨x, hx, hr⟩ := h.get hv
  exact ⟨x, by rw [List.getElem?_drop]; exact hx, hr⟩

/-- the parts of a value -/
def PartsR (c : Cx) : List (Nat × V) → List (Nat × Value) → Prop
  | [], xs => xs = []
  | v :: l, xs => ∃ x ys, xs = x :: ys ∧ x.1 = v.1 ∧ VR c v.2 x.2 ∧ PartsR c l ys

theorem allCells_cons {v : V} {l : List V} (h : allCells (v :: l) = true) : v.cellb = true ∧ allCells l = true := by
  have h : (Bool.rec false (allCells l) v.cellb : Bool) = true := h
  cases hv : v.cellb <;> rw [hv] at h
  · exact (Bool.false_ne_true h).elim
  · exact ⟨rfl, h⟩

theorem allCells_bad {v : V} (h : allCells v.cells = true) : v ≠ .bad := by
  rintro rfl
  exact (Bool.false_ne_true (allCells_cons (show allCells [V.bad] = true from h)).1).elim

theorem fill_ok {place : Nat → Option (Nat × Nat)} : ∀ {ps : List (Nat × V)} {parts : List (Nat × Value)} {l r : List V} {cs : Array Value}, PartsR c ps parts → VRs c l cs.toList → fillV place ps l = some r →
    ∃ cs' : Array Value, Instr.fill place cs parts = some cs' ∧ VRs c r cs'.toList ∧ cs'.size = cs.size
  | [], parts, l, r, cs, hp, hl, h => by
    have hp : parts = [] := hp
    subst hp
    have h : some l = some r := h
    simp at h; subst h
    exact ⟨cs, rfl, hl, rfl⟩
  | x :: ps, parts, l, r, cs, hp, hl, h => by
    obtain ⟨y, ys, rfl, h1, h2, h3⟩ := hp
    obtain ⟨yi, yv⟩ := y
    have h1 : yi = x.1 := h1
    subst h1
    have h : (Option.rec none (fun l' => fillV place ps l') (fill1 l x.2 (place x.1)) : Option (List V)) = some r := h
    cases hf : fill1 l x.2 (place x.1) with
    | none => rw [hf] at h; simp at h
    | some l' =>
      rw [hf] at h
      have h : fillV place ps l' = some r := h
      cases hpl : place x.1 with
      | none => rw [hpl] at hf; simp [fill1] at hf
      | some a =>
        rw [hpl] at hf
        have hf : selB (andB (allCells x.2.cells) (Nat.beq (lenL x.2.cells) a.2)) (over a.1 x.2.cells l) none = some l' := hf
        cases hb : andB (allCells x.2.cells) (Nat.beq (lenL x.2.cells) a.2) with
        | false => rw [hb] at hf; simp [selB] at hf
        | true =>
          rw [hb] at hf
          have hf : over a.1 x.2.cells l = some l' := hf
          obtain ⟨h4, h5⟩ := andB_iff.1 hb
          rw [beq_iff, lenL_eq] at h5
          obtain ⟨h6, h7⟩ := over_ok hf
          have h2 : VR c x.2 yv := h2
          have hc := h2.cells (allCells_bad h4)
          have hcl := hc.length
          have hll := hl.length
          have hsz : yv.cells.size = a.2 := by rw [← h5, ← hcl]; simp
          have hlt : a.1 + yv.cells.size ≤ cs.size := by
            have : cs.size = l.length := by simpa using hll
            omega
          have hfold := fold_set a.1 yv.cells.toList 0 cs (by simpa using hlt)
          have hz : yv.cells.zipIdx.foldl (fun cs (x : Value × Nat) => cs.setIfInBounds (a.1 + x.2) x.1) cs = (yv.cells.toList.zipIdx 0).foldl (fun (cs : Array Value) (x : Value × Nat) => cs.setIfInBounds (a.1 + x.2) x.1) cs := by
            rw [← Array.foldl_toList, Array.toList_zipIdx]
          rw [← hz] at hfold
          have hl' : VRs c l' (yv.cells.zipIdx.foldl (fun cs (x : Value × Nat) => cs.setIfInBounds (a.1 + x.2) x.1) cs).toList := by
            rw [hfold, h7]
            have : (x.2.cells).length = yv.cells.toList.length := by simpa using hcl.symm
            rw [this]
            exact ((hl.take a.1).append hc).append (hl.drop _)
          obtain ⟨cs', h8, h9, h10⟩ := fill_ok h3 hl' h
          refine ⟨cs', ?_, h9, h10.trans ?_⟩
          · unfold Instr.fill
            rw [hpl]
            have : (decide (yv.cells.size ≠ a.2) || decide (a.1 + yv.cells.size > cs.size)) = false := by simp [hsz]; omega
            simp only [this]
            exact h8
          · have h11 := hl'.length
            rw [Array.length_toList] at h11
            have h12 := congrArg List.length h7
            simp only [List.length_append, List.length_take, List.length_drop] at h12
            have h13 : l.length = cs.size := by simpa using hll.symm
            omega

theorem placesOf_some : ∀ {fs : List Field} {ps : List (Nat × Nat)}, placesOf P fs = some ps → fs.mapM (fun f => (P.info? f.type).map fun i => (f.offset, i.size)) = some ps
  | [], ps, h => by simp [placesOf] at h; subst h; rfl
  | f :: fs, ps, h => by
    unfold placesOf at h
    split at h
    · rename_i n r h1 h2
      simp at h; subst h
      obtain ⟨i, hi, rfl⟩ := Option.map_eq_some_iff.1 h1
      simp [List.mapM_cons, hi, placesOf_some h2]
    · simp at h

theorem ofVal_bad : ∀ (d : Nat) {x : Value}, ofVal d x ≠ some .bad
  | 0, _, h => by simp [ofVal] at h
  | d + 1, x, h => by
    cases x <;> simp only [ofVal] at h <;> try (simp at h; done)
    case int k n => unfold intVal at h; cases hc : (leZ (kMin k) n && leZ n (kMax k)) <;> simp [hc] at h
    case string s => simp [strVal'] at h
    case pointer a => cases a <;> simp [ptrVal] at h
    case slice a n k =>
      unfold sliceVal at h
      split at h <;> simp at h
    case map r => cases r <;> simp [mapVal] at h
    case func fn a b =>
      unfold funcVal at h
      split at h <;> simp at h

theorem zeroOf_bad {t : TypeId} {z : V} (h : zeroOf P t = some z) : z ≠ .bad := by
  unfold zeroOf at h
  split at h
  · split at h
    · rintro rfl; exact ofVal_bad 8 h
    · simp at h
  · simp at h

theorem buildR_ok {t : TypeId} {ps : List (Nat × V)} {parts : Array (Nat × Value)} {v : V} (hp : PartsR c ps parts.toList) (h : (buildR P t ps).gives c.ρ m p v q) :
    q = p ∧ ∃ z, (Instr.build t parts).run P w = .ok z w ∧ VR c v z := by
  unfold buildR at h
  cases hz : zeroOf P t with
  | none => rw [hz] at h; exact (R.gives_fail h).elim
  | some z =>
    rw [hz] at h
    obtain ⟨h1, rfl⟩ := R.gives_opt (show (R.opt "build" ((buildL P t ps z.cells).map .agg)).gives c.ρ m p v q from h)
    obtain ⟨r, h2, rfl⟩ := Option.map_eq_some_iff.1 h1
    obtain ⟨i, zv, hi, hiz, hzr, _⟩ := zeroOf_ok hz
    have hzb := zeroOf_bad hz
    have hcz := (hzr c).cells hzb
    suffices h3 : ∃ cs' : Array Value, P.built t parts.toList = some cs' ∧ VRs c r cs'.toList by
      obtain ⟨cs', h3, h4⟩ := h3
      exact ⟨rfl, .agg cs', run_build w t parts cs' h3, VR.agg.2 ⟨cs', rfl, h4⟩⟩
    unfold buildL at h2
    cases hs : structPlaces P t with
    | some pl =>
      rw [hs] at h2
      have h2 : fillV (fun i => nth i pl) ps z.cells = some r := h2
      unfold structPlaces at hs
      split at hs
      · rename_i fs hfs
        obtain ⟨cs', h4, h5, _⟩ := fill_ok hp hcz h2
        refine ⟨cs', ?_, h5⟩
        have : (fun i => nth i pl) = fun i => pl.toArray[i]? := by funext i; rw [nth_eq]; simp
        rw [this] at h4
        simp [Program.built, hi, hfs, hiz, placesOf_some hs]
        simpa using h4
      · simp at hs
    | none =>
      rw [hs] at h2
      have h2 : buildA P t ps z.cells = some r := h2
      unfold buildA at h2
      cases ha : arrOf P t with
      | none => rw [ha] at h2; simp at h2
      | some a =>
        rw [ha] at h2
        have h2 : fillV (fun i => some (Nat.mul i a.2.2, a.2.2)) ps z.cells = some r := h2
        obtain ⟨hu, hsz⟩ := arrOf_some ha
        obtain ⟨ie, hie, hies⟩ := Option.map_eq_some_iff.1 hsz
        obtain ⟨cs', h4, h5, _⟩ := fill_ok hp hcz h2
        refine ⟨cs', ?_, h5⟩
        have h4 : Instr.fill (fun i => some (i * a.2.2, a.2.2)) zv.cells parts.toList = some cs' := h4
        simp [Program.built, hi, hu, hiz, hie, hies, h4]
end ops

end Go.Sy

/-
  What is proved here: the evaluator's new blocks are those of the model.
  Conditions: none.
-/
namespace Go.Sy

def Cx.addB (c : Cx) (w : World) : Cx := { c with β := fun i => if i = c.nb then (w.heap.size, 0) else c.β i, nb := c.nb + 1, has := fun i => c.has i ∨ i = c.nb, lt := fun i h => h.elim (fun h => Nat.lt_succ_of_lt (c.lt i h)) (fun h => h ▸ Nat.lt_succ_self _) }
def Cx.addT (c : Cx) (n : Nat) : Cx := { c with γ := fun i => if i = c.nt then n else c.γ i, nt := c.nt + 1 }

theorem Cx.le_addB (c : Cx) (w : World) : c.le (c.addB w) := ⟨rfl, Nat.le_succ _, Nat.le_refl _, fun _ h => .inl h, fun _ hi h => h.elim id fun e => by omega, fun i hi => if_neg (by have := c.lt i hi; omega), fun _ _ => rfl⟩
theorem Cx.le_addT (c : Cx) (n : Nat) : c.le (c.addT n) := ⟨rfl, Nat.le_refl _, Nat.le_succ _, fun _ h => h, fun _ _ h => h, fun _ _ => rfl, fun i hi => if_neg (by omega)⟩

section ops
variable {P : Program} {c : Cx} {m : Mem} {w : World} {p q : Pc}

theorem Cx.addB_new : (c.addB w).β c.nb = (w.heap.size, 0) := if_pos rfl
theorem Cx.addB_old {i : Nat} (h : c.has i) : (c.addB w).β i = c.β i := if_neg (by have := c.lt i h; omega)

theorem heap_push_old (w : World) (o : Obj) {i : Nat} (h : i < w.heap.size) : (w.alloc o).heap[i]? = w.heap[i]? := by
  show (w.heap.push o)[i]? = w.heap[i]?
  rw [Array.getElem?_push_lt h, Array.getElem?_eq_getElem h]
theorem heap_push_new (w : World) (o : Obj) : (w.alloc o).heap[w.heap.size]? = some o := by
  show (w.heap.push o)[w.heap.size]? = some o
  simp

/-- a new block -/
theorem Step.new (hm : MemR c m w) {b : Blk} {o : Obj} (hb : BlkR (c.addB w) (w.alloc o) (w.heap.size, 0) b) :
    Step c m w (c.addB w) ⟨m.tr.set m.nb b, Nat.succ m.nb, m.tok, m.nt⟩ (w.alloc o) := by
  have hlt : ∀ i b', m.tr.get i = some b' → b'.live c → c.has i ∧ (c.β i).1 < w.heap.size := fun i b' h hl => ⟨((hm.blk i b' h).live hl).1, ((hm.blk i b' h).live hl).2.lt hl⟩
  have hget : ∀ i b', (m.tr.set m.nb b).get i = some b' → i = c.nb ∧ b' = b ∨ i ≠ c.nb ∧ m.tr.get i = some b' := by
    intro i b' h
    rw [Tr.get_set, ← hm.nb] at h
    split at h
    · rename_i e; simp at h; exact .inl ⟨e, h.symm⟩
    · rename_i e; exact .inr ⟨e, h⟩
  refine ⟨⟨?_, hm.nt, ?_, ?_, hm.tok⟩, c.le_addB w, rfl, rfl, rfl, ?_, ?_, ?_, ?_⟩
  · show c.nb + 1 = m.nb + 1; rw [hm.nb]
  · intro i b' h
    rcases hget i b' h with ⟨rfl, rfl⟩ | ⟨hi, h⟩
    · exact .of (.inr rfl) (by rw [Cx.addB_new]; exact hb)
    · exact (hm.blk i b' h).on (c.le_addB w) fun hl => heap_push_old w o (hlt i b' h hl).2
  · intro i j b1 b2 h1 h2 hij hap l1 l2
    rw [Blk.live_le (c.le_addB w)] at l1 l2
    rcases hget i b1 h1 with ⟨rfl, e1⟩ | ⟨hi, g1⟩ <;> rcases hget j b2 h2 with ⟨rfl, e2⟩ | ⟨hj, g2⟩
    · exact absurd rfl hij
    · obtain ⟨h3, h4⟩ := hlt j b2 g2 l2
      rw [Cx.addB_new, Cx.addB_old h3]
      exact fun e => by have e : w.heap.size = _ := e; omega
    · obtain ⟨h3, h4⟩ := hlt i b1 g1 l1
      rw [Cx.addB_new, Cx.addB_old h3]
      exact fun e => by have e : _ = w.heap.size := e; omega
    · rw [Cx.addB_old (hlt i b1 g1 l1).1, Cx.addB_old (hlt j b2 g2 l2).1]
      exact hm.inj i j b1 b2 g1 g2 hij hap l1 l2
  · show w.heap.size ≤ (w.heap.push o).size; simp
  · intro b' hb' _; exact heap_push_old w o hb'
  · rintro b' ⟨i, blk, h1, h2, h3⟩
    rcases hget i blk h1 with ⟨rfl, rfl⟩ | ⟨hi, h1⟩
    · right; rw [Cx.addB_new] at h3; exact Nat.le_of_eq h3
    · left; rw [Cx.addB_old (hlt i blk h1 (Blk.wr_live h2)).1] at h3; exact ⟨i, blk, h1, h2, h3⟩
  · rintro b' ⟨i, blk, h1, h2, h3⟩
    rcases hget i blk h1 with ⟨rfl, rfl⟩ | ⟨hi, h1⟩
    · right; rw [Cx.addB_new] at h3; exact Nat.le_of_eq h3
    · left; have h2 := (Blk.live_le (c.le_addB w)).1 h2; rw [Cx.addB_old (hlt i blk h1 h2).1] at h3; exact ⟨i, blk, h1, h2, h3⟩

/-- a new token -/
theorem Step.tok (hm : MemR c m w) {lb n : Nat} (h : lb ≤ n) : Step c m w (c.addT n) ⟨m.tr, m.nb, m.tok.set m.nt lb, Nat.succ m.nt⟩ w := by
  refine ⟨⟨hm.nb, ?_, ?_, hm.inj, ?_⟩, c.le_addT n, rfl, rfl, rfl, Nat.le_refl _, fun _ _ _ => rfl, fun b hb => .inl hb, fun b hb => .inl (let ⟨i, k, h1, h2, h3⟩ := hb; ⟨i, k, h1, (Blk.live_le (c.le_addT n)).1 h2, h3⟩)⟩
  · show c.nt + 1 = m.nt + 1; rw [hm.nt]
  · intro i b hb; exact (hm.blk i b hb).on (c.le_addT n) fun _ => rfl
  · intro t k hk
    have hk : (m.tok.set m.nt lb).get t = some k := hk
    rw [Tr.get_set, ← hm.nt] at hk
    split at hk
    · rename_i e; simp at hk; subst hk; subst e
      exact ⟨Nat.lt_succ_self _, by show _ ≤ (if c.nt = c.nt then n else c.γ c.nt); rw [if_pos rfl]; exact h⟩
    · obtain ⟨h1, h2⟩ := hm.tok t k hk
      exact ⟨Nat.lt_succ_of_lt h1, by show k ≤ (if t = c.nt then n else c.γ t); rw [if_neg (by omega)]; exact h2⟩

theorem newBlk_gives {b : Blk} {i : Nat} {m' : Mem} (h : (newBlk b).gives c.ρ m p i m' q) : i = m.nb ∧ m' = ⟨m.tr.set m.nb b, Nat.succ m.nb, m.tok, m.nt⟩ ∧ q = p := by
  cases m
  simp [M.gives, newBlk, T.out] at h
  exact ⟨h.1.symm, h.2.1.symm, h.2.2.symm⟩
theorem newTok_gives {lb : Nat} {i : Nat} {m' : Mem} (h : (newTok lb).gives c.ρ m p i m' q) : i = m.nt ∧ m' = ⟨m.tr, m.nb, m.tok.set m.nt lb, Nat.succ m.nt⟩ ∧ q = p := by
  cases m
  simp [M.gives, newTok, T.out] at h
  exact ⟨h.1.symm, h.2.1.symm, h.2.2.symm⟩

/-- a new object, known by any name -/
def NewR (c : Cx) (w : World) (o : Obj) (bs : Blk × Shp) (z : Value) : Prop :=
  bs.1.wrB = true ∧ ∀ (n0 : Nat) (c' : Cx) (b : Nat), c.leN n0 c' → c'.has b → c'.β b = (w.heap.size, 0) → BlkR c' (w.alloc o) (w.heap.size, 0) bs.1 ∧ VR c' (bs.2.val b) z

/-- a row of cells -/
theorem BlkR.new {n0 : Nat} {c' : Cx} {l : List V} {cs : Array Value} {t : TypeId} (h : c.leN n0 c') (hl : VRs c l cs.toList) : BlkR c' (w.alloc (.cells cs t)) (w.heap.size, 0) (newCells l) := by
  refine ⟨cs, t, (0, 0), heap_push_new w _, fun j v hj => ?_, fun _ => rfl, fun _ => .inl rfl, trivial⟩
  obtain ⟨x, hx, hr⟩ := hl.get hj
  exact ⟨x, by simpa using hx, hr.mono h⟩

theorem NewR.ptr {l : List V} {cs : Array Value} {t : TypeId} (hl : VRs c l cs.toList) : NewR c w (.cells cs t) (newCells l, .ptr) (.pointer (some ⟨w.heap.size, 0, none⟩)) :=
  ⟨rfl, fun _ _ _ h hb hβ => ⟨.new h hl, VR.ptr.2 ⟨hb, by unfold Cx.ad; rw [hβ]⟩⟩⟩

theorem NewR.slice {l : List V} {cs : Array Value} {t : TypeId} {len cap : Nat} (hl : VRs c l cs.toList) (hlc : len ≤ cap) : NewR c w (.cells cs t) (newCells l, .slice len cap) (.slice (some ⟨w.heap.size, 0, none⟩) len cap) :=
  ⟨rfl, fun _ _ _ h hb hβ => ⟨.new h hl, VR.slice.2 ⟨hb, cap, rfl, hlc, by unfold Cx.ad; rw [hβ]⟩⟩⟩

theorem NewR.map : NewR c w (.map #[] 0) (.map [] 0 true, .map) (.map (some w.heap.size)) :=
  ⟨rfl, fun _ _ _ _ hb hβ => ⟨⟨#[], heap_push_new w _, rfl, by simp⟩, VR.map.2 ⟨hb, by rw [hβ]⟩⟩⟩

/-- by the next name -/
theorem NewR.next {o : Obj} {bs : Blk × Shp} {z : Value} (h : NewR c w o bs z) : BlkR (c.addB w) (w.alloc o) (w.heap.size, 0) bs.1 ∧ VR (c.addB w) (bs.2.val c.nb) z :=
  h.2 _ _ _ (c.le_addB w) (.inr rfl) Cx.addB_new

/-- what an operation that makes a block does -/
def AlOK (P : Program) (c : Cx) (w : World) (bs : Blk × Shp) (s : Sem Value) : Prop :=
  ∃ o z, s.run P w = .ok z (w.alloc o) ∧ NewR c w o bs z

theorem alloc_ok {t : TypeId} {bs : Blk × Shp} (h : (R.opt "alloc no zero" ((zeroOf P t).map fun z => (newCells z.cells, Shp.ptr))).gives c.ρ m p bs q) : q = p ∧ AlOK P c w bs (Instr.alloc t true (.tuple #[])) := by
  obtain ⟨h1, rfl⟩ := R.gives_opt h
  obtain ⟨z, hz, rfl⟩ := Option.map_eq_some_iff.1 h1
  obtain ⟨i, zv, _, _, h2, h3⟩ := zeroOf_ok hz
  exact ⟨rfl, .cells zv.cells t, _, by simp [Instr.alloc, h3, newVar, newRow], .ptr ((h2 c).cells (zeroOf_bad hz))⟩

theorem box_ok {t : TypeId} {x : V} {X : Value} {bs : Blk × Shp} (hx : VR c x X) (h : (selB (allCells x.cells) (R.pure (newCells x.cells, Shp.ptr)) (R.fail "box")).gives c.ρ m p bs q) : q = p ∧ AlOK P c w bs (Instr.box t X) := by
  obtain ⟨h1, h2⟩ := R.gives_if h
  obtain ⟨rfl, rfl⟩ := R.gives_pure h2
  exact ⟨rfl, .cells X.cells t, _, by simp [Instr.box, newVar, newRow], .ptr (hx.cells (allCells_bad h1))⟩

theorem makeMap_ok {t : TypeId} {r : Option V} {R' : Option Value} {bs : Blk × Shp} (hr : OptR c r R')
    (h : (match r with | none => R.pure (Blk.map [] 0 true, Shp.map) | some x => onInt x (fun _ _ => selB (isMapT P t) (R.pure (.map [] 0 true, .map)) (R.fail "makeMap")) (R.fail "makeMap")).gives c.ρ m p bs q) :
    q = p ∧ AlOK P c w bs (Instr.makeMap t R') := by
  have fin : AlOK P c w (Blk.map [] 0 true, Shp.map) (do pure (.map (some (← newObj (.map #[] 0))))) := by
    refine ⟨.map #[] 0, .map (some w.heap.size), by simp, .map⟩
  cases r with
  | none =>
    have hr : R' = none := hr
    subst hr
    obtain ⟨rfl, rfl⟩ := R.gives_pure h
    exact ⟨rfl, fin⟩
  | some x =>
    obtain ⟨X, rfl, hx⟩ := hr
    obtain ⟨k, e, rfl, h1⟩ := onInt_gives h
    obtain ⟨h2, h3⟩ := R.gives_if h1
    obtain ⟨rfl, rfl⟩ := R.gives_pure h3
    obtain ⟨rfl, _⟩ := VR.int.1 hx
    obtain ⟨kt, et, hu⟩ := isMapT_iff h2
    obtain ⟨o, z, h4, h5⟩ := fin
    refine ⟨rfl, o, z, ?_, h5⟩
    simp [Instr.makeMap, run_und hu, asInt, asIntOf]
    simpa using h4

/-! ### rows -/

theorem repl_length (n : Nat) (l : List V) : (repl n l).length = n * l.length := by
  induction n with
  | zero => simp [show repl 0 l = [] from rfl]
  | succ n ih => rw [show repl (n + 1) l = catV l (repl n l) from rfl, catV_eq, List.length_append, ih, Nat.succ_mul]; omega

theorem repl_get (l : List V) : ∀ (n j : Nat), j < n * l.length → (repl n l)[j]? = l[j % l.length]?
  | 0, j, h => by simp at h
  | n + 1, j, h => by
    rw [show repl (n + 1) l = catV l (repl n l) from rfl, catV_eq]
    rw [Nat.succ_mul] at h
    rcases Nat.lt_or_ge j l.length with hj | hj
    · rw [List.getElem?_append_left hj, Nat.mod_eq_of_lt hj]
    · rw [List.getElem?_append_right hj, repl_get l n (j - l.length) (by omega)]
      have : j % l.length = (j - l.length) % l.length := Nat.mod_eq_sub_mod hj
      rw [this]

theorem repl_ok {l : List V} {z : Array Value} (hl : VRs c l z.toList) (n : Nat) : VRs c (repl n l) ((Array.range (n * z.size)).map (z[· % z.size]!)).toList := by
  have hlen : z.size = l.length := by simpa using hl.length
  refine VRs.of_get (by simp [repl_length, hlen]) fun j v hv => ?_
  have hj : j < n * l.length := by
    rcases Nat.lt_or_ge j (n * l.length) with h | h
    · exact h
    · rw [List.getElem?_eq_none (by rw [repl_length]; exact h)] at hv; simp at hv
  rw [repl_get l n j hj] at hv
  obtain ⟨x, hx, hr⟩ := hl.get hv
  refine ⟨x, ?_, hr⟩
  have hpos : j % z.size < z.size := by
    apply Nat.mod_lt
    rw [hlen]
    rcases Nat.eq_zero_or_pos l.length with h | h
    · rw [h] at hj; simp at hj
    · exact h
  rw [← hlen] at hx hj
  have hx : z[j % z.size]? = some x := by simpa using hx
  simp [hj]
  rw [getElem!_pos z _ hpos]
  rw [Array.getElem?_eq_getElem hpos] at hx
  simpa using hx

theorem zcells_ok {t : TypeId} {sz n : Nat} {l : List V} (h : zcells P t sz n = some l) :
    (n * sz = 0 ∧ l = []) ∨ n * sz ≠ 0 ∧ l.length = sz ∧ ∃ z : Value, VRs c l z.cells.toList ∧ ∀ w, (zeroValue t).run P w = .ok z w := by
  unfold zcells at h
  cases hn : Nat.mul n sz with
  | zero =>
    rw [hn] at h
    have h : some [] = some l := h
    simp at h
    exact .inl ⟨hn, h⟩
  | succ k =>
    rw [hn] at h
    have h : zfit sz (zeroOf P t) = some l := h
    cases hz : zeroOf P t with
    | none => rw [hz] at h; simp [zfit] at h
    | some z =>
      rw [hz] at h
      have h : selB (Nat.beq (lenL z.cells) sz) (some z.cells) none = some l := h
      cases hb : Nat.beq (lenL z.cells) sz with
      | false => rw [hb] at h; simp [selB] at h
      | true =>
        rw [hb] at h
        have h : some z.cells = some l := h
        simp at h; subst h
        rw [beq_iff, lenL_eq] at hb
        obtain ⟨i, zv, _, _, h2, h3⟩ := zeroOf_ok hz
        refine .inr ⟨?_, hb, zv, (h2 c).cells (zeroOf_bad hz), h3⟩
        have hn : n * sz = k + 1 := hn
        omega

theorem buildSlice_ok {t : TypeId} {n : Nat} {ps : List (Nat × V)} {parts : Array (Nat × Value)} {bs : Blk × Shp} (hp : PartsR c ps parts.toList) (h : (buildSliceR P t n ps).gives c.ρ m p bs q) : q = p ∧ AlOK P c w bs (Instr.buildSlice t n parts) := by
  unfold buildSliceR at h
  cases ha : slcOf P t with
  | none => rw [ha] at h; exact (R.gives_fail h).elim
  | some a =>
    rw [ha] at h
    obtain ⟨hu, hsz⟩ := slcOf_some ha
    obtain ⟨h1, rfl⟩ := R.gives_opt (show (R.opt "buildSlice" ((sliceLit n a.2 ps (zcells P a.1 a.2 n)).map fun l => (newCells l, Shp.slice n n))).gives c.ρ m p bs q from h)
    obtain ⟨r, h2, rfl⟩ := Option.map_eq_some_iff.1 h1
    cases hz : zcells P a.1 a.2 n with
    | none => rw [hz] at h2; simp [sliceLit] at h2
    | some z =>
      rw [hz] at h2
      have h2 : selB (Nat.ble (Nat.mul n a.2) 16777216) (fillV (fun i => some (Nat.mul i a.2, a.2)) ps (repl n z)) none = some r := h2
      cases hb : Nat.ble (Nat.mul n a.2) 16777216 with
      | false => rw [hb] at h2; simp [selB] at h2
      | true =>
        rw [hb] at h2
        have h2 : fillV (fun i => some (Nat.mul i a.2, a.2)) ps (repl n z) = some r := h2
        rw [ble_iff] at hb
        have hb : n * a.2 ≤ 16777216 := hb
        rcases zcells_ok (c := c) hz with ⟨h0, rfl⟩ | ⟨h0, h3, zv, h4, h5⟩
        · have hr : VRs c (repl n []) ((Array.range (n * a.2)).map fun x => (#[] : Array Value)[x % (#[] : Array Value).size]!).toList := by
            rw [h0]
            have : repl n [] = [] := List.eq_nil_of_length_eq_zero (by rw [repl_length]; simp)
            rw [this]; simp; exact VRs.nil
          obtain ⟨cs', h6, h7, _⟩ := fill_ok hp hr h2
          have h6 : Instr.fill (fun i => some (i * a.2, a.2)) ((Array.range (n * a.2)).map fun x => (#[] : Array Value)[x % (#[] : Array Value).size]!) parts.toList = some cs' := h6
          refine ⟨rfl, .cells cs' a.1, _, ?_, .slice h7 (Nat.le_refl n)⟩
          unfold Instr.buildSlice
          simp only [Sem.run_bind, run_und hu, Result.andThen_ok, run_size hsz]
          rw [if_neg (by omega), if_pos h0]
          simp only [Sem.run_bind, Sem.run_pure, Result.andThen_ok, h6]
          simp [newRow]
        · have hzs : zv.cells.size = a.2 := by have := h4.length; simp at this; omega
          have hr := repl_ok h4 n
          rw [hzs] at hr
          obtain ⟨cs', h6, h7, _⟩ := fill_ok hp hr h2
          have h6 : Instr.fill (fun i => some (i * a.2, a.2)) ((Array.range (n * a.2)).map fun x => zv.cells[x % a.2]!) parts.toList = some cs' := h6
          refine ⟨rfl, .cells cs' a.1, _, ?_, .slice h7 (Nat.le_refl n)⟩
          unfold Instr.buildSlice
          simp only [Sem.run_bind, run_und hu, Result.andThen_ok, run_size hsz]
          rw [if_neg (by omega), if_neg h0]
          simp only [Sem.run_bind, Sem.run_pure, Result.andThen_ok, h5, hzs, h6]
          simp [newRow]
end ops

end Go.Sy

