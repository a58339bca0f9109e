/-
  What is proved here: plain words for texts of paths: cutting at dots, joining, digits.
  Conditions: none.
-/
import Derived.Lib.Bytealg
import Derived.Laws.BytesArg
namespace Go.Proofs.YthapmkbeolbmiaaDoor
open Go.Proofs Go

/-- cut at the dots -/
def cuts : List UInt8 → List (List UInt8)
  | [] => [[]]
  | c :: r => if c = 46 then [] :: cuts r else match cuts r with
    | [] => [[c]]
    | h :: t => (c :: h) :: t

theorem cuts_ne (l : List UInt8) : ∃ h t, cuts l = h :: t := by
  induction l with
  | nil => exact ⟨_, _, rfl⟩
  | cons c r ih =>
    obtain ⟨h, t, e⟩ := ih
    unfold cuts
    by_cases hc : c = 46
    · rw [if_pos hc]; exact ⟨_, _, rfl⟩
    · rw [if_neg hc, e]; exact ⟨_, _, rfl⟩

theorem cuts_dot (r : List UInt8) : cuts (46 :: r) = [] :: cuts r := by rw [cuts, if_pos rfl]
theorem cuts_char {c : UInt8} {r h : List UInt8} {t : List (List UInt8)} (hc : ¬ c = 46) (e : cuts r = h :: t) : cuts (c :: r) = (c :: h) :: t := by rw [cuts, if_neg hc, e]

theorem cuts_count (l : List UInt8) : (cuts l).length = Lib.countByte l 46 + 1 := by
  unfold Lib.countByte
  induction l with
  | nil => rfl
  | cons c r ih =>
    by_cases hc : c = 46
    · subst hc; rw [cuts_dot, List.length_cons, ih, List.count_cons_self]
    · obtain ⟨h, t, e⟩ := cuts_ne r
      rw [cuts_char hc e, List.count_cons_of_ne hc, List.length_cons, ← ih, e, List.length_cons]

theorem cuts_miss : ∀ (l : List UInt8), Lib.indexByte l 46 = -1 → cuts l = [l]
  | [], _ => rfl
  | c :: r, h => by
    unfold Lib.indexByte at h
    by_cases hc : c = 46
    · subst hc; simp at h
    · have h0 : (c == 46) = false := by simpa using hc
      rw [h0] at h
      simp only [Bool.false_eq_true, if_false] at h
      have hg := Lib.indexByte_ge r 46
      split at h
      · rename_i h1
        exact cuts_char hc (cuts_miss r (by simpa using h1))
      · omega

theorem cuts_hit : ∀ (l : List UInt8) (i : Nat), Lib.indexByte l 46 = i → i < l.length ∧ cuts l = l.take i :: cuts (l.drop (i + 1))
  | [], i, h => by simp [Lib.indexByte] at h
  | c :: r, i, h => by
    unfold Lib.indexByte at h
    by_cases hc : c = 46
    · subst hc
      simp only [beq_self_eq_true, if_true] at h
      obtain rfl : i = 0 := by omega
      exact ⟨by simp, by rw [cuts_dot]; rfl⟩
    · have h0 : (c == 46) = false := by simpa using hc
      rw [h0] at h
      simp only [Bool.false_eq_true, if_false] at h
      split at h
      · omega
      · have hg := Lib.indexByte_ge r 46
        rename_i h1
        have h1 : ¬ Lib.indexByte r 46 = -1 := by simpa using h1
        obtain ⟨k, rfl⟩ : ∃ k, i = k + 1 := ⟨i - 1, by omega⟩
        obtain ⟨a, b⟩ := cuts_hit r k (by omega)
        exact ⟨by simp; omega, by rw [cuts_char hc b]; rfl⟩

/-- joined by dots -/
def joins : List (List UInt8) → List UInt8
  | [] => []
  | [a] => a
  | a :: b :: l => a ++ 46 :: joins (b :: l)

theorem joins_cuts : ∀ l : List UInt8, joins (cuts l) = l
  | [] => rfl
  | c :: r => by
    obtain ⟨h, t, e⟩ := cuts_ne r
    have ih := joins_cuts r
    by_cases hc : c = 46
    · subst hc
      rw [cuts_dot, e, joins]
      rw [e] at ih
      rw [ih]; rfl
    · rw [cuts_char hc e]
      rw [e] at ih
      cases t with
      | nil => simp only [joins] at ih ⊢; rw [ih]
      | cons b t => simp only [joins] at ih ⊢; rw [List.cons_append, ih]

/-- a digit of a port -/
def digB (c : UInt8) : Bool := decide (49 ≤ c.toNat) && decide (c.toNat ≤ 55)
/-- a piece that is one digit -/
def oneB (l : List UInt8) : Bool := match l with
  | [c] => digB c
  | _ => false
/-- the pieces of a text of a path -/
def goodB (p : List (List UInt8)) : Bool := decide (p.length ≤ 6) && p.all oneB

/-- a path that is valid -/
def validB (xs : List Int) : Bool := decide (1 ≤ xs.length) && decide (xs.length ≤ 6) && xs.all fun x => decide (1 ≤ x) && decide (x ≤ 7)

/-- the digit of a port -/
def dig (x : Int) : UInt8 := UInt8.ofNat (48 + x).toNat
/-- the text of a path -/
def txt : List Int → List UInt8
  | [] => []
  | [x] => [dig x]
  | x :: y :: r => dig x :: 46 :: txt (y :: r)

theorem txt_snoc : ∀ (xs : List Int) (x : Int), txt (xs ++ [x]) = if xs = [] then [dig x] else txt xs ++ [46, dig x]
  | [], _ => rfl
  | [a], x => rfl
  | a :: b :: r, x => by
    have ih := txt_snoc (b :: r) x
    rw [if_neg (by simp)] at ih
    rw [if_neg (by simp)]
    show dig a :: 46 :: txt ((b :: r) ++ [x]) = _
    rw [ih]; rfl

theorem txt_joins : ∀ xs : List Int, txt xs = joins (xs.map fun x => [dig x])
  | [] => rfl
  | [a] => rfl
  | a :: b :: r => by
    have ih := txt_joins (b :: r)
    rw [txt, ih]; rfl

/-- the ports of the pieces -/
def ports (p : List (List UInt8)) : List Int := p.map fun l => match l with
  | [c] => (c.toNat : Int) - 48
  | _ => 0

theorem dig_of (c : UInt8) : dig ((c.toNat : Int) - 48) = c := by
  unfold dig
  have e : (48 + ((c.toNat : Int) - 48)).toNat = c.toNat := by omega
  rw [e]
  exact UInt8.ofNat_toNat

theorem ports_joins : ∀ p : List (List UInt8), p.all oneB = true → txt (ports p) = joins p := by
  intro p hp
  rw [txt_joins]
  congr 1
  unfold ports
  rw [List.map_map]
  conv => rhs; rw [← List.map_id p]
  refine List.map_congr_left fun l hl => ?_
  have h := List.all_eq_true.1 hp l hl
  match l, h with
  | [], h => simp [oneB] at h
  | [c], h => simp only [Function.comp, id]; rw [dig_of c]
  | _ :: _ :: _, h => simp [oneB] at h

/-- the ports of good pieces are a valid path -/
theorem ports_valid {p : List (List UInt8)} (h : goodB p = true) (h1 : 1 ≤ p.length) : validB (ports p) = true := by
  simp only [goodB, Bool.and_eq_true, decide_eq_true_eq] at h
  simp only [validB, Bool.and_eq_true, decide_eq_true_eq, ports, List.length_map, List.all_eq_true]
  refine ⟨⟨h1, h.1⟩, fun x hx => ?_⟩
  obtain ⟨l, hl, rfl⟩ := List.mem_map.1 hx
  have h2 := List.all_eq_true.1 h.2 l hl
  match l, h2 with
  | [], h => simp [oneB] at h
  | [c], h =>
    simp only [oneB, digB, Bool.and_eq_true, decide_eq_true_eq] at h
    show 1 ≤ (c.toNat : Int) - 48 ∧ (c.toNat : Int) - 48 ≤ 7
    omega
  | _ :: _ :: _, h => simp [oneB] at h

/-- whether the form is right at a place: digits in even places, dots in odd ones -/
def okAt (l : List UInt8) (j : Nat) : Bool := match l[j]? with
  | none => true
  | some c => if j % 2 = 0 then digB c else decide (c = 46)

theorem cuts_form : ∀ (n : Nat) (l : List UInt8), l.length = 2 * n + 1 → (∀ j, okAt l j = true) → (cuts l).all oneB = true ∧ (cuts l).length = n + 1
  | 0, l, hl, h => by
    match l, hl with
    | [c], _ =>
      have h0 : digB c = true := h 0
      have hc : ¬ c = 46 := by rintro rfl; exact absurd h0 (by decide)
      rw [cuts_char (h := []) (t := []) hc rfl]
      exact ⟨by simp [oneB, h0], rfl⟩
  | n + 1, l, hl, h => by
    match l, hl with
    | c :: d :: r, hl =>
      have h0 : digB c = true := h 0
      have h1 : decide (d = 46) = true := h 1
      have hd : d = 46 := of_decide_eq_true h1
      subst hd
      have hc : ¬ c = 46 := by rintro rfl; exact absurd h0 (by decide)
      obtain ⟨a, b⟩ := cuts_form n r (by simp at hl; omega) fun j => by
        have := h (j + 2)
        unfold okAt at this ⊢
        simpa [Nat.add_mod] using this
      rw [cuts_char hc (cuts_dot r)]
      exact ⟨by simp only [List.all_cons, a, Bool.and_true]; exact h0, by simp [b]⟩

/-- what has the form of a text of a path is one -/
theorem good_of_form {l : List UInt8} (h1 : l.length % 2 = 1) (h2 : l.length < 12) (h : ∀ j, okAt l j = true) : goodB (cuts l) = true := by
  obtain ⟨a, b⟩ := cuts_form (l.length / 2) l (by omega) h
  simp only [goodB, Bool.and_eq_true, decide_eq_true_eq]
  exact ⟨by omega, a⟩

/-- a text of a valid path is cut into its digits -/
theorem cuts_txt : ∀ xs : List Int, 1 ≤ xs.length → (∀ x ∈ xs, 1 ≤ x ∧ x ≤ 7) → cuts (txt xs) = xs.map fun x => [dig x] := by
  have hne : ∀ x : Int, 1 ≤ x ∧ x ≤ 7 → ¬ dig x = 46 := by
    intro x hx e
    have : (dig x).toNat = 46 := by rw [e]; rfl
    unfold dig at this
    rw [UInt8.toNat_ofNat', Nat.mod_eq_of_lt (by omega)] at this
    omega
  intro xs
  induction xs with
  | nil => intro h; simp at h
  | cons x xs ih =>
    intro _ h
    cases xs with
    | nil => exact cuts_char (h := []) (t := []) (hne x (h x (by simp))) rfl
    | cons y r =>
      have e := ih (by simp) fun z hz => h z (List.mem_cons_of_mem _ hz)
      show cuts (dig x :: 46 :: txt (y :: r)) = _
      rw [cuts_char (hne x (h x (by simp))) (cuts_dot _), e]
      rfl

theorem ports_txt {xs : List Int} (h1 : 1 ≤ xs.length) (h : ∀ x ∈ xs, 1 ≤ x ∧ x ≤ 7) : ports (cuts (txt xs)) = xs := by
  rw [cuts_txt xs h1 h]
  unfold ports
  rw [List.map_map]
  conv => rhs; rw [← List.map_id xs]
  refine List.map_congr_left fun x hx => ?_
  have := h x hx
  simp only [Function.comp, id, dig]
  rw [UInt8.toNat_ofNat', Nat.mod_eq_of_lt (by omega)]
  omega

theorem good_txt {xs : List Int} (h : validB xs = true) : goodB (cuts (txt xs)) = true ∧ ports (cuts (txt xs)) = xs := by
  simp only [validB, Bool.and_eq_true, decide_eq_true_eq, List.all_eq_true] at h
  obtain ⟨⟨h1, h2⟩, h3⟩ := h
  refine ⟨?_, ports_txt h1 h3⟩
  rw [cuts_txt xs h1 h3]
  simp only [goodB, Bool.and_eq_true, decide_eq_true_eq, List.length_map, List.all_eq_true]
  refine ⟨h2, fun l hl => ?_⟩
  obtain ⟨x, hx, rfl⟩ := List.mem_map.1 hl
  have := h3 x hx
  have e : (dig x).toNat = (48 + x).toNat := by unfold dig; rw [UInt8.toNat_ofNat', Nat.mod_eq_of_lt (by omega)]
  simp only [oneB, digB, Bool.and_eq_true, decide_eq_true_eq]
  omega
end Go.Proofs.YthapmkbeolbmiaaDoor
