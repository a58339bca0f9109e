/-
  What is proved here: terms as plain arithmetic, where nothing overflows.
  Conditions: none.
-/
import Derived.Test.YtcipfcbaclfnhaaSyVc
namespace Go.Sy
open Go.RowKit (Below)

/-- plain arithmetic -/
inductive Z where
  | n (z : Int)
  | x (i : Nat)
  | add (a b : Z)
  | sub (a b : Z)
  | mul (a b : Z)
  | md (a b : Z)
  | dv (a b : Z)
  | e (a : E)

noncomputable def Z.den (ρ : Nat → Int) : Z → Int
  | .n z => z
  | .x i => ρ i
  | .add a b => a.den ρ + b.den ρ
  | .sub a b => a.den ρ - b.den ρ
  | .mul a b => a.den ρ * b.den ρ
  | .md a b => a.den ρ % b.den ρ
  | .dv a b => a.den ρ / b.den ρ
  | .e a => a.den ρ

noncomputable def fitsK (k : IntKind) (lo hi : Int) : Bool := andB (leZ (kMin k) lo) (leZ hi (kMax k))

/-- a power of two less one: its number of bits -/
noncomputable def maskOf (z : Int) : Option Nat := (Int.rec (motive := fun _ => Option Nat) (fun m => selB (Nat.beq (Nat.pow 2 (Nat.log2 (Nat.succ m))) (Nat.succ m)) (some (Nat.log2 (Nat.succ m))) none) (fun _ => none) (z))

/-- 'a or b', where b is so many times a power of two that is more than a -/
noncomputable def normOr (za zb : Z) (ah : Int) (b : E) (d : Z) : Z :=
  match zb with
  | .mul _ (.n c) => match b with
    | .bin .shl _ _ (.n j) => selB (andB (andB (leZ 0 j) (eqZ c (Int.ofNat (Nat.pow 2 j.toNat)))) (ltZ ah c)) (.add za zb) d
    | _ => d
  | _ => d

noncomputable def normBin (op : BinOp) (k : IntKind) (a b : E) (za zb : Z) (ia ib : Option (Int × Int)) : Z :=
  match ia, ib with
  | some (al, ah), some (bl, bh) =>
    match op with
    | .add => selB (fitsK k (Int.add al bl) (Int.add ah bh)) (.add za zb) (.e (.bin op k a b))
    | .sub => selB (fitsK k (Int.sub al bh) (Int.sub ah bl)) (.sub za zb) (.e (.bin op k a b))
    | .mul => selB (andB (andB (leZ 0 al) (leZ 0 bl)) (fitsK k 0 (Int.mul ah bh))) (.mul za zb) (.e (.bin op k a b))
    | .rem => selB (leZ 0 al) (.md za zb) (.e (.bin op k a b))
    | .quo => selB (andB (andB (leZ 0 al) (leZ 1 bl)) (fitsK k 0 ah)) (.dv za zb) (.e (.bin op k a b))
    | .shr => selB (andB (andB (leZ 0 al) (leZ 0 bl)) (andB (eqZ bl bh) (leZ bl k.bits))) (.dv za (.n (Int.ofNat (Nat.pow 2 bl.toNat)))) (.e (.bin op k a b))
    | .shl => selB (andB (andB (leZ 0 al) (leZ 0 bl)) (andB (andB (eqZ bl bh) (leZ bl k.bits)) (leZ (Int.mul ah (Int.ofNat (Nat.pow 2 bl.toNat))) (kMax k)))) (.mul za (.n (Int.ofNat (Nat.pow 2 bl.toNat)))) (.e (.bin op k a b))
    | .or => selB (andB (andB (leZ 0 al) (leZ 0 bl)) (andB (leZ ah (kMax k)) (leZ bh (kMax k)))) (normOr za zb ah b (.e (.bin op k a b))) (.e (.bin op k a b))
    | _ => .e (.bin op k a b)
  | _, _ => .e (.bin op k a b)

noncomputable def normCv (k : IntKind) (a : E) (za : Z) (ia : Option (Int × Int)) : Z :=
  match ia with
  | some (al, ah) => selB (fitsK k al ah) za (selB (notB k.signed) (.md za (.n (limN k))) (.e (.cv k a)))
  | none => .e (.cv k a)

noncomputable def norm (rng : List (Int × Int)) : E → Z
  | .n z => .n z
  | .x i => .x i
  | .bin op k a b => normBin op k a b (norm rng a) (norm rng b) (a.iv rng) (b.iv rng)
  | .cv k a => normCv k a (norm rng a) (a.iv rng)
  | .rd a r lo hi e => .e (.rd a r lo hi e)
  | .tab l lo hi e => .e (.tab l lo hi e)

theorem fitsK_ok {k : IntKind} {lo hi z : Int} (h : fitsK k lo hi = true) (h1 : lo ≤ z) (h2 : z ≤ hi) : k.wrap z = z := by
  obtain ⟨h3, h4⟩ := andB_ok h
  rw [leZ_iff] at h3 h4
  exact wrap_in k z (by omega) (by omega)

theorem selB_den {ρ : Nat → Int} {c : Bool} {x y : Z} {v : Int} (h1 : c = true → x.den ρ = v) (h2 : y.den ρ = v) : (selB c x y).den ρ = v := by
  cases c with
  | true => exact h1 rfl
  | false => exact h2

theorem normOr_ok {ρ : Nat → Int} {k : IntKind} {a b : E} {za zb : Z} {ah : Int} (ha : za.den ρ = a.den ρ) (hb : zb.den ρ = b.den ρ) (a0 : 0 ≤ a.den ρ) (a1 : a.den ρ ≤ ah) (b0 : 0 ≤ b.den ρ) (h1 : a.den ρ ≤ kMax k) (h2 : b.den ρ ≤ kMax k) :
    (normOr za zb ah b (.e (.bin .or k a b))).den ρ = (E.bin .or k a b).den ρ := by
  unfold normOr
  split
  · rename_i zc c
    split
    · rename_i k' b0' j
      refine selB_den (fun h => ?_) rfl
      obtain ⟨h3, h4⟩ := andB_ok h
      obtain ⟨h5, h6⟩ := andB_ok h3
      rw [leZ_iff] at h5
      rw [eqZ_iff] at h6
      rw [ltZ_iff] at h4
      obtain ⟨x, hx⟩ := Int.eq_ofNat_of_zero_le a0
      obtain ⟨y, hy⟩ := Int.eq_ofNat_of_zero_le b0
      have hc : c = ((2 ^ j.toNat : Nat) : Int) := h6
      have hmul : zc.den ρ * ((2 ^ j.toNat : Nat) : Int) = (y : Int) := by
        have := hb
        rw [hy] at this
        rw [← hc]; exact this
      have hdvd : ∃ u : Nat, y = 2 ^ j.toNat * u := by
        have hp : (0 : Int) < ((2 ^ j.toNat : Nat) : Int) := by exact_mod_cast Nat.two_pow_pos _
        have h7 : ((2 ^ j.toNat : Nat) : Int) ∣ (y : Int) := ⟨zc.den ρ, by rw [← hmul, Int.mul_comm]⟩
        have h8 : 2 ^ j.toNat ∣ y := Int.natCast_dvd_natCast.1 h7
        exact h8
      obtain ⟨u, hu⟩ := hdvd
      have hxl : x < 2 ^ j.toNat := by omega
      rw [or_den hx hy (by omega) (by omega)]
      show za.den ρ + (Z.mul zc (.n c)).den ρ = _
      rw [ha, hb, hx, hy, hu]
      have := Nat.two_pow_add_eq_or_of_lt hxl u
      have e : x ||| 2 ^ j.toNat * u = 2 ^ j.toNat * u + x := by rw [Nat.or_comm]; exact this.symm
      rw [e]
      push_cast
      omega
    · rfl
  · rfl

theorem norm_den {ρ : Nat → Int} {rng : List (Int × Int)} (hr : RngR ρ rng) : ∀ (e : E), (norm rng e).den ρ = e.den ρ
  | .n _ => rfl
  | .x _ => rfl
  | .rd _ _ _ _ _ => rfl
  | .tab _ _ _ _ => rfl
  | .bin op k a b => by
    have ha := norm_den hr a
    have hb := norm_den hr b
    show (normBin op k a b (norm rng a) (norm rng b) (a.iv rng) (b.iv rng)).den ρ = _
    unfold normBin
    split
    · rename_i al ah bl bh e1 e2
      obtain ⟨a1, a2⟩ := E.iv_in hr e1
      obtain ⟨b1, b2⟩ := E.iv_in hr e2
      split
      · refine selB_den (fun h => ?_) rfl
        show (norm rng a).den ρ + (norm rng b).den ρ = wrapZ k (a.den ρ + b.den ρ)
        rw [ha, hb, wrapZ_eq]
        exact (fitsK_ok h (show al + bl ≤ _ by omega) (show _ ≤ ah + bh by omega)).symm
      · refine selB_den (fun h => ?_) rfl
        show (norm rng a).den ρ - (norm rng b).den ρ = wrapZ k (a.den ρ - b.den ρ)
        rw [ha, hb, wrapZ_eq]
        exact (fitsK_ok h (show al - bh ≤ _ by omega) (show _ ≤ ah - bl by omega)).symm
      · refine selB_den (fun h => ?_) rfl
        obtain ⟨h1, h2⟩ := andB_ok h
        obtain ⟨h3, h4⟩ := andB_ok h1
        rw [leZ_iff] at h3 h4
        show (norm rng a).den ρ * (norm rng b).den ρ = wrapZ k (a.den ρ * b.den ρ)
        rw [ha, hb, wrapZ_eq]
        exact (fitsK_ok h2 (Int.mul_nonneg (by omega) (by omega)) (Int.mul_le_mul a2 b2 (by omega) (by omega))).symm
      · refine selB_den (fun h => ?_) rfl
        rw [leZ_iff] at h
        show (norm rng a).den ρ % (norm rng b).den ρ = (a.den ρ).tmod (b.den ρ)
        rw [ha, hb, Int.tmod_eq_emod_of_nonneg (by omega)]
      · refine selB_den (fun h => ?_) rfl
        obtain ⟨h1, h2⟩ := andB_ok h
        obtain ⟨h3, h4⟩ := andB_ok h1
        rw [leZ_iff] at h3 h4
        show (norm rng a).den ρ / (norm rng b).den ρ = wrapZ k ((a.den ρ).tdiv (b.den ρ))
        rw [ha, hb, wrapZ_eq, Int.tdiv_eq_ediv_of_nonneg (by omega)]
        exact (fitsK_ok h2 (Int.ediv_nonneg (by omega) (by omega)) (Int.le_trans (Int.ediv_le_self _ (by omega)) a2)).symm
      · refine selB_den (fun h => ?_) rfl
        obtain ⟨h1, h2⟩ := andB_ok h
        obtain ⟨h3, h4⟩ := andB_ok h1
        obtain ⟨h5, h6⟩ := andB_ok h2
        rw [leZ_iff] at h3 h4 h6
        rw [eqZ_iff] at h5
        obtain ⟨x, hx⟩ := Int.eq_ofNat_of_zero_le (show 0 ≤ a.den ρ by omega)
        have hb2 : b.den ρ = bl := by omega
        show (norm rng a).den ρ / ((2 ^ bl.toNat : Nat) : Int) = shrZ k (a.den ρ) (b.den ρ)
        rw [ha, hx, hb2]
        show _ = Int.ofNat (Nat.div x (Nat.pow 2 (min bl.toNat k.bits)))
        rw [show min bl.toNat k.bits = bl.toNat by omega]
        show (x : Int) / ((2 ^ bl.toNat : Nat) : Int) = ((x / 2 ^ bl.toNat : Nat) : Int)
        exact (Int.natCast_ediv _ _).symm
      · refine selB_den (fun h => ?_) rfl
        obtain ⟨h1, h2⟩ := andB_ok h
        obtain ⟨h3, h4⟩ := andB_ok h1
        obtain ⟨h5, h6⟩ := andB_ok h2
        obtain ⟨h7, h8⟩ := andB_ok h5
        rw [leZ_iff] at h3 h4 h6 h8
        rw [eqZ_iff] at h7
        obtain ⟨e1, _⟩ := shl_den (k := k) (a := a) (b := b) (ρ := ρ) (by omega) a2 (show b.den ρ = bl by omega) h8 h6
        show (norm rng a).den ρ * ((2 ^ bl.toNat : Nat) : Int) = _
        rw [ha, e1]
      · refine selB_den (fun h => ?_) rfl
        obtain ⟨h1, h2⟩ := andB_ok h
        obtain ⟨h3, h4⟩ := andB_ok h1
        obtain ⟨h5, h6⟩ := andB_ok h2
        rw [leZ_iff] at h3 h4 h5 h6
        exact normOr_ok ha hb (by omega) a2 (by omega) (by omega) (by omega)
      · rfl
    · rfl
  | .cv k a => by
    have ha := norm_den hr a
    show (normCv k a (norm rng a) (a.iv rng)).den ρ = k.wrap (a.den ρ)
    unfold normCv
    split
    · rename_i al ah e1
      obtain ⟨a1, a2⟩ := E.iv_in hr e1
      refine selB_den (fun h => ?_) (selB_den (fun h => ?_) rfl)
      · rw [ha]; exact (fitsK_ok h a1 a2).symm
      · show (norm rng a).den ρ % (limN k : Int) = k.wrap (a.den ρ)
        rw [ha]
        cases k <;> try exact (Bool.false_ne_true h).elim
        all_goals simp [IntKind.wrap, IntKind.signed, IntKind.bits, limN]
    · rfl

theorem rd_in {ρ : Nat → Int} {a r : Nat} {lo hi : Int} {e : E} (h : lo ≤ hi) : lo ≤ (E.rd a r lo hi e).den ρ ∧ (E.rd a r lo hi e).den ρ ≤ hi := clampZ_in h

/-! ### conditions -/

inductive BZ where
  | lit (v : Bool)
  | lt (a b : Z)
  | eq (a b : Z)
  | not (a : BZ)

noncomputable def normBZ (rng : List (Int × Int)) : B → BZ
  | .lit v => .lit v
  | .lt a b => .lt (norm rng a) (norm rng b)
  | .eq a b => .eq (norm rng a) (norm rng b)
  | .not a => .not (normBZ rng a)

/-- the condition as a proposition -/
def BZ.prop (ρ : Nat → Int) : BZ → Bool → Prop
  | .lit u, v => u = v
  | .lt a b, true => a.den ρ < b.den ρ
  | .lt a b, false => ¬ a.den ρ < b.den ρ
  | .eq a b, true => a.den ρ = b.den ρ
  | .eq a b, false => a.den ρ ≠ b.den ρ
  | .not a, v => a.prop ρ (!v)

theorem normBZ_prop {ρ : Nat → Int} {rng : List (Int × Int)} (hr : RngR ρ rng) : ∀ {c : B} {v : Bool}, c.den ρ = v ↔ (normBZ rng c).prop ρ v
  | .lit u, v => Iff.rfl
  | .lt a b, true => by
    show decide (a.den ρ < b.den ρ) = true ↔ (norm rng a).den ρ < (norm rng b).den ρ
    rw [norm_den hr, norm_den hr, decide_eq_true_iff]
  | .lt a b, false => by
    show decide (a.den ρ < b.den ρ) = false ↔ ¬ (norm rng a).den ρ < (norm rng b).den ρ
    rw [norm_den hr, norm_den hr, decide_eq_false_iff_not]
  | .eq a b, true => by
    show (a.den ρ == b.den ρ) = true ↔ (norm rng a).den ρ = (norm rng b).den ρ
    rw [norm_den hr, norm_den hr, beq_iff_eq]
  | .eq a b, false => by
    show (a.den ρ == b.den ρ) = false ↔ (norm rng a).den ρ ≠ (norm rng b).den ρ
    rw [norm_den hr, norm_den hr, beq_eq_false_iff_ne]
  | .not a, v => by
    show (!a.den ρ) = v ↔ (normBZ rng a).prop ρ (!v)
    rw [← normBZ_prop hr (c := a) (v := !v)]
    cases a.den ρ <;> cases v <;> simp

inductive GZ where
  | ofZ (a : Z)
  | ofB (c : BZ)

noncomputable def normG (rng : List (Int × Int)) : G → GZ
  | .ofE a => .ofZ (norm rng a)
  | .ofB c => .ofB (normBZ rng c)

/-- what stands at a general place is 'v' -/
def GZ.is (ρ : Nat → Int) (v : Int) : GZ → Prop
  | .ofZ a => v = a.den ρ
  | .ofB c => (c.prop ρ true ∧ v = 1) ∨ (c.prop ρ false ∧ v = 0)

theorem normG_is {ρ : Nat → Int} {rng : List (Int × Int)} (hr : RngR ρ rng) (g : G) : (normG rng g).is ρ (g.den ρ) := by
  cases g with
  | ofE a => exact (norm_den hr a).symm
  | ofB c =>
    show ((normBZ rng c).prop ρ true ∧ (if c.den ρ then (1 : Int) else 0) = 1) ∨ ((normBZ rng c).prop ρ false ∧ (if c.den ρ then (1 : Int) else 0) = 0)
    rw [← normBZ_prop hr, ← normBZ_prop hr]
    cases c.den ρ <;> simp

/-- a leaf in plain arithmetic -/
structure Vz where
  cs : List (BZ × Bool)
  rng : List (Int × Int)
  tag : Nat
  s : List GZ

noncomputable def normVc (v : Vc) : Vz := ⟨v.q.cs.map fun c => (normBZ v.q.rng c.1, c.2), v.q.rng, v.tag, v.s.map (normG v.q.rng)⟩

def factsZ (ρ : Nat → Int) : List (BZ × Bool) → Prop
  | [] => True
  | (c, v) :: l => c.prop ρ v ∧ factsZ ρ l

/-- the variables anew: those from 'i' on are what the list says; those ahead of it as before -/
def newZ (ρ ρ' : Nat → Int) : Nat → List GZ → Prop
  | _, [] => True
  | i, g :: l => g.is ρ (ρ' i) ∧ newZ ρ ρ' (i + 1) l

def sameTo (ρ ρ' : Nat → Int) : Nat → Prop
  | 0 => True
  | n + 1 => ρ' n = ρ n ∧ sameTo ρ ρ' n

theorem sameTo_of {ρ ρ' : Nat → Int} : ∀ {n : Nat}, (∀ i, i < n → ρ' i = ρ i) → sameTo ρ ρ' n
  | 0, _ => trivial
  | n + 1, h => ⟨h n (by omega), sameTo_of fun i hi => h i (by omega)⟩

/-- what a leaf owes, in plain arithmetic -/
def OwesZ (base : Nat) (rng0 : List (Int × Int)) (J Jx : (Nat → Int) → Prop) (ρ : Nat → Int) (v : Vz) : Prop :=
  match v.tag with
  | 0 => ∀ ρ' : Nat → Int, (∀ i, i < base → ρ' i = ρ i) → sameTo ρ ρ' base → newZ ρ ρ' base v.s → (∀ i, base + v.s.length ≤ i → ρ' i = ρ i) → rngP ρ' 0 rng0 ∧ J ρ'
  | 1 => ∀ ρ' : Nat → Int, (∀ i, i < base → ρ' i = ρ i) → sameTo ρ ρ' base → newZ ρ ρ' base v.s → (∀ i, base + v.s.length ≤ i → ρ' i = ρ i) → rngP ρ' 0 rng0 ∧ Jx ρ'
  | _ => ∀ g ∈ v.s, g.is ρ 1

theorem newZ_of {ρ : Nat → Int} {base : Nat} {rng : List (Int × Int)} (hr : RngR ρ rng) {s0 : List G} : ∀ {s : List G} {i : Nat}, (∀ j, j < s.length → s0[i + j]? = s[j]?) → newZ ρ (Sy.sub base s0 ρ) (base + i) (s.map (normG rng))
  | [], _, _ => trivial
  | g :: s, i, h => by
    refine ⟨?_, ?_⟩
    · have h0 := h 0 (by simp)
      have e : Sy.sub base s0 ρ (base + i) = g.den ρ := by
        unfold Sy.sub
        have h0 : s0[i]? = some g := by simpa using h0
        rw [if_neg (by omega), show base + i - base = i by omega, h0]
      rw [e]; exact normG_is hr g
    · have := newZ_of hr (s := s) (i := i + 1) (s0 := s0) (base := base) fun j hj => by
        have := h (j + 1) (by simpa using hj)
        rw [show i + 1 + j = i + (j + 1) by omega]; simpa using this
      exact this

theorem is_one {ρ : Nat → Int} {rng : List (Int × Int)} (hr : RngR ρ rng) {g : G} (h : (normG rng g).is ρ 1) : g.den ρ = 1 := by
  cases g with
  | ofE a => have h : 1 = (norm rng a).den ρ := h; rw [norm_den hr] at h; exact h.symm
  | ofB c =>
    rcases h with ⟨h1, _⟩ | ⟨_, h2⟩
    · show (if c.den ρ then (1 : Int) else 0) = 1
      rw [(normBZ_prop hr).2 h1]; rfl
    · exact absurd h2 (by decide)

theorem factsZ_of {ρ : Nat → Int} {rng : List (Int × Int)} (hr : RngR ρ rng) : ∀ {l : List (B × Bool)}, (∀ c ∈ l, c.1.den ρ = c.2) → factsZ ρ (l.map fun c => (normBZ rng c.1, c.2))
  | [], _ => trivial
  | (c, v) :: l, h => ⟨(normBZ_prop hr).1 (h (c, v) (.head _)), factsZ_of hr (l := l) fun d hd => h d (.tail _ hd)⟩

/-- what a leaf owes is its arithmetic -/
theorem owes_of {base : Nat} {rng0 : List (Int × Int)} {J Jx : (Nat → Int) → Prop} {ρ : Nat → Int} {v : Vc} (hq : PcR ρ v.q)
    (h : factsZ ρ (normVc v).cs → rngP ρ 0 (normVc v).rng → OwesZ base rng0 J Jx ρ (normVc v)) : Owes base ⟨[], rng0⟩ J Jx ρ v := by
  have hr := hq.rng
  have h1 := h (factsZ_of hr hq.cs) (rngP_iff.1 hr)
  obtain ⟨q, tag, s⟩ := v
  have a1 : ∀ i, i < base → Sy.sub base s ρ i = ρ i := fun i hi => by unfold Sy.sub; rw [if_pos hi]
  have a2 : newZ ρ (Sy.sub base s ρ) base (s.map (normG q.rng)) := newZ_of hr (i := 0) fun j _ => by rw [Nat.zero_add]
  have a3 : ∀ i, base + (s.map (normG q.rng)).length ≤ i → Sy.sub base s ρ i = ρ i := fun i hi => by
    rw [List.length_map] at hi
    unfold Sy.sub; rw [if_neg (by omega), List.getElem?_eq_none (by omega)]
  match tag, h1 with
  | 0, h1 =>
    obtain ⟨h2, h3⟩ := h1 _ a1 (sameTo_of a1) a2 a3
    exact ⟨pcR_of h2, h3⟩
  | 1, h1 =>
    obtain ⟨h2, h3⟩ := h1 _ a1 (sameTo_of a1) a2 a3
    exact ⟨pcR_of h2, h3⟩
  | _ + 2, h1 =>
    intro g hg
    exact is_one hr (h1 _ (List.mem_map_of_mem hg))

section raw
variable {ρ : Nat → Int} {a b : E}
theorem e_n {z : Int} : (E.n z).den ρ = z := rfl
theorem e_x {i : Nat} : (E.x i).den ρ = ρ i := rfl
theorem wrap64_eq (z : Int) : IntKind.i64.wrap z = (z + 9223372036854775808) % 18446744073709551616 - 9223372036854775808 := by
  simp only [IntKind.wrap, IntKind.signed, IntKind.bits]
  simp
  split <;> omega
theorem e_add64 : (E.bin .add .i64 a b).den ρ = (a.den ρ + b.den ρ + 9223372036854775808) % 18446744073709551616 - 9223372036854775808 := by
  show wrapZ .i64 (a.den ρ + b.den ρ) = _
  rw [wrapZ_eq, wrap64_eq]
theorem e_sub64 : (E.bin .sub .i64 a b).den ρ = (a.den ρ - b.den ρ + 9223372036854775808) % 18446744073709551616 - 9223372036854775808 := by
  show wrapZ .i64 (a.den ρ - b.den ρ) = _
  rw [wrapZ_eq, wrap64_eq]
theorem e_rem {k : IntKind} : (E.bin .rem k a b).den ρ = if 0 ≤ a.den ρ then a.den ρ % b.den ρ else -((-a.den ρ) % b.den ρ) := by
  show (a.den ρ).tmod (b.den ρ) = _
  split
  · rename_i h; exact Int.tmod_eq_emod_of_nonneg h
  · rename_i h
    rw [← Int.tmod_eq_emod_of_nonneg (a := -a.den ρ) (by omega), Int.neg_tmod, Int.neg_neg]
end raw

/-- all leaves -/
theorem owes_all {base : Nat} {rng0 : List (Int × Int)} {J0 : (Nat → Int) → Prop} {J Jx : (Nat → Int) → (Nat → Int) → Prop} {p : Pc} {o : Option (List Vc)} {lz : List Vz} (he : o.map (List.map normVc) = some lz)
    (h : ∀ v ∈ lz, ∀ ρ, J0 ρ → PcR ρ p → factsZ ρ v.cs → rngP ρ 0 v.rng → OwesZ base rng0 (J ρ) (Jx ρ) ρ v) :
    ∃ l, o = some l ∧ ∀ v ∈ l, ∀ ρ, J0 ρ → PcR ρ p → PcR ρ v.q → Owes base ⟨[], rng0⟩ (J ρ) (Jx ρ) ρ v := by
  obtain ⟨l, h1, rfl⟩ := Option.map_eq_some_iff.1 he
  exact ⟨l, h1, fun v hv ρ hJ hp hq => owes_of hq fun hf hr => h _ (List.mem_map_of_mem hv) ρ hJ hp hf hr⟩

end Go.Sy
