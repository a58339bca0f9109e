/-
  What is proved here: what isochronous transactions do to the state of the device and of the wire.
  Conditions: none.
-/
import Derived.Test.YtiajboiobjfcoaaGreatDoorIBus
namespace Go.Proofs.YtiajboiobjfcoaaGreatDoor
open Go.Proofs Go.RowKit
section
variable (K : GrK) (hiso : K.iso = true) (G B0 B1 : Nat) (hG : B0 ≤ B1) (hGB : G < B1) (W : Wire B0) (hWo : ∀ i, W.own i → B0 ≤ i ∧ i < B1 ∧ i ≠ G)
def GrS.tok (s : GrS) (b : Bool) : GrS := if b = true then { s with wt := false, tk := true } else s
def outS (W : Wire B0) (s : W.τ × GrS) (xs : List Int) : W.τ × GrS :=
 ((W.nx (W.nx s.1).2).2, if (W.nx s.1).1 = 0 ∧ (W.nx (W.nx s.1).2).1 = 0 then GrS.takeIso { s.2.tok true with wt := false, tk := false } xs else s.2.tok (decide ((W.nx s.1).1 = 0)))
theorem iso_out (hin : K.inn = false) (he : K.endp = 2) (s : W.τ × GrS) (xs : List Int) :
  (isoBus K hiso G B0 B1 hG hGB W hWo).trOut true s 5 2 false true xs = (1, outS B0 W s xs) := by
 obtain ⟨t, g⟩ := s
 unfold Bus.trOut Bus.dev Bus.speak isoBus outS GrS.tok dataPk
 have hm : K.mine ⟨1, 5, 2, []⟩ = true := by unfold GrK.mine; simp [he]
 by_cases h1 : (W.nx t).1 = 0
 ·by_cases h2 : (W.nx (W.nx t).2).1 = 0
  ·simp [h1, h2, GrS.hearIso, hm, hin]
  ·simp [h1, h2, GrS.hearIso, hm, hin]
 ·simp [h1]
def inS (W : Wire B0) (K : GrK) (s : W.τ × GrS) : (Int × List Int) × (W.τ × GrS) :=
 if (W.nx s.1).1 = 0 then
  if K.on < s.2.nx + 1 then ((4, []), ((W.nx s.1).2, { s.2 with wt := false, tk := false, nx := s.2.nx + 1 }))
  else if (W.nx (W.nx s.1).2).1 = 0 then ((1, K.offs[s.2.nx]?.getD []), ((W.nx (W.nx s.1).2).2, { s.2 with wt := false, tk := false, nx := s.2.nx + 1 }))
  else ((4, []), ((W.nx (W.nx s.1).2).2, { s.2 with wt := false, tk := false, nx := s.2.nx + 1 }))
 else ((4, []), ((W.nx s.1).2, s.2))
theorem iso_in (hin : K.inn = true) (he : K.endp = 2) (hl : ∀ b ∈ K.offs, b.length ≤ 8) (s : W.τ × GrS) :
  (isoBus K hiso G B0 B1 hG hGB W hWo).trIn true s 5 2 false true 8 = inS B0 W K s := by
 obtain ⟨t, g⟩ := s
 have hm : K.mine ⟨9, 5, 2, []⟩ = true := by unfold GrK.mine; simp [he]
 have hb : ¬ (8 : Int) < ((K.offs[g.nx]?.getD []).length : Int) := by
  cases h : K.offs[g.nx]? with
  | none => simp
  | some b => have := hl b (List.mem_of_getElem? h); simp; omega
 unfold Bus.trIn Bus.dev Bus.speak isoBus inS
 by_cases h1 : (W.nx t).1 = 0
 ·by_cases h3 : K.on < g.nx + 1
  ·simp [h1, h3, GrS.hearIso, GrS.giveIso, hm, hin]
  ·by_cases h2 : (W.nx (W.nx t).2).1 = 0
   ·simp only [Nat.not_lt] at h3
    have h3' : ¬ K.on < g.nx + 1 := by omega
    simp [h1, h2, h3', GrS.hearIso, GrS.giveIso, hm, hin]
    omega
   ·have h3' : ¬ K.on < g.nx + 1 := h3
    simp [h1, h2, h3', GrS.hearIso, GrS.giveIso, hm, hin]
 ·simp [h1]
end
def outK {B0 : Nat} (W : Wire B0) (bs : List (List Int)) (s : W.τ × GrS) : Nat → W.τ × GrS
 | 0 => s
 | k + 1 => outS B0 W (outK W bs s k) (bs[k]?.getD [])
def inK {B0 : Nat} (W : Wire B0) (K : GrK) (s : W.τ × GrS) : Nat → W.τ × GrS
 | 0 => s
 | k + 1 => (inS B0 W K (inK W K s k)).2
def inR {B0 : Nat} (W : Wire B0) (K : GrK) (s : W.τ × GrS) (k : Nat) : Int × List Int := (inS B0 W K (inK W K s k)).1
def sumTo (bs : List (List Int)) (k : Nat) : Nat := ((bs.take k).map List.length).foldr (· + ·) 0
theorem sumTo_zero (bs : List (List Int)) : sumTo bs 0 = 0 := by simp [sumTo]
theorem sumTo_succ (bs : List (List Int)) (k : Nat) : sumTo bs (k + 1) = sumTo bs k + (bs[k]?.getD []).length := by
 unfold sumTo
 rw [List.take_add_one]
 cases h : bs[k]? with
 | none => simp
 | some b =>
  simp
  have : ∀ (l : List Nat) (x : Nat), List.foldr (· + ·) x l = List.foldr (· + ·) 0 l + x := by
   intro l x
   induction l with
   | nil => simp
   | cons a l ih => simp only [List.foldr_cons, ih]; omega
  rw [this]
theorem sumTo_le (bs : List (List Int)) (h : ∀ b ∈ bs, b.length ≤ 8) (k : Nat) : sumTo bs k ≤ 8 * k := by
 induction k with
 | zero => simp [sumTo_zero]
 | succ k ih =>
  rw [sumTo_succ]
  cases hk : bs[k]? with
  | none => simp; omega
  | some b => have := h b (List.mem_of_getElem? hk); simp; omega
theorem out_facts {B0 : Nat} (W : Wire B0) (s : W.τ × GrS) (xs : List Int) : (outS B0 W s xs).2.at_ = s.2.at_ ∧ (outS B0 W s xs).2.nx = s.2.nx ∧ (outS B0 W s xs).2.many ≤ s.2.many + 1 ∧ (outS B0 W s xs).2.taken.length ≤ s.2.taken.length + xs.length := by
 unfold outS GrS.takeIso GrS.tok
 split
 ·simp
 ·split <;> simp <;> omega
theorem out_all {B0 : Nat} (W : Wire B0) (s : W.τ × GrS) (xs : List Int) (h1 : (W.nx s.1).1 = 0) (h2 : (W.nx (W.nx s.1).2).1 = 0) : (outS B0 W s xs).2.taken = s.2.taken ++ xs := by
 unfold outS GrS.takeIso GrS.tok
 simp [h1, h2]
theorem outK_facts {B0 : Nat} (W : Wire B0) (bs : List (List Int)) (s : W.τ × GrS) (k : Nat) : (outK W bs s k).2.at_ = s.2.at_ ∧ (outK W bs s k).2.nx = s.2.nx ∧ (outK W bs s k).2.many ≤ s.2.many + k ∧ (outK W bs s k).2.taken.length ≤ s.2.taken.length + sumTo bs k := by
 induction k with
 | zero => simp [outK, sumTo_zero]
 | succ k ih =>
  obtain ⟨a, b, c, d⟩ := out_facts W (outK W bs s k) (bs[k]?.getD [])
  rw [sumTo_succ]
  show (outS B0 W (outK W bs s k) (bs[k]?.getD [])).2.at_ = _ ∧ (outS B0 W (outK W bs s k) (bs[k]?.getD [])).2.nx = _ ∧ (outS B0 W (outK W bs s k) (bs[k]?.getD [])).2.many ≤ _ ∧ (outS B0 W (outK W bs s k) (bs[k]?.getD [])).2.taken.length ≤ _
  omega
theorem in_facts {B0 : Nat} (W : Wire B0) (K : GrK) (s : W.τ × GrS) : (inS B0 W K s).2.2.at_ = s.2.at_ ∧ s.2.nx ≤ (inS B0 W K s).2.2.nx ∧ (inS B0 W K s).2.2.nx ≤ s.2.nx + 1 ∧ (inS B0 W K s).2.2.many = s.2.many ∧ (inS B0 W K s).2.2.taken = s.2.taken ∧
  (((inS B0 W K s).1.1 = 4 ∧ (inS B0 W K s).1.2 = []) ∨ ((inS B0 W K s).1.1 = 1 ∧ s.2.nx < K.on ∧ (inS B0 W K s).2.2.nx = s.2.nx + 1 ∧ (inS B0 W K s).1.2 = K.offs[s.2.nx]?.getD [])) := by
 unfold inS
 split
 ·split
  ·simp
  ·split
   ·simp; omega
   ·simp
 ·simp
theorem inK_facts {B0 : Nat} (W : Wire B0) (K : GrK) (s : W.τ × GrS) (k : Nat) : (inK W K s k).2.at_ = s.2.at_ ∧ (inK W K s k).2.nx ≤ s.2.nx + k ∧ (inK W K s k).2.many = s.2.many ∧ (inK W K s k).2.taken = s.2.taken := by
 induction k with
 | zero => simp [inK]
 | succ k ih =>
  obtain ⟨a, b, c, d, e, _⟩ := in_facts W K (inK W K s k)
  show (inS B0 W K (inK W K s k)).2.2.at_ = _ ∧ (inS B0 W K (inK W K s k)).2.2.nx ≤ _ ∧ (inS B0 W K (inK W K s k)).2.2.many = _ ∧ (inS B0 W K (inK W K s k)).2.2.taken = _
  refine ⟨by omega, by omega, by omega, by rw [e]; exact ih.2.2.2⟩
theorem inR_facts {B0 : Nat} (W : Wire B0) (K : GrK) (s : W.τ × GrS) (k : Nat) : (inK W K s k).2.nx ≤ (inK W K s (k + 1)).2.nx ∧
  (((inR W K s k).1 = 4 ∧ (inR W K s k).2 = []) ∨ ((inR W K s k).1 = 1 ∧ (inK W K s k).2.nx < K.on ∧ (inK W K s (k + 1)).2.nx = (inK W K s k).2.nx + 1 ∧ (inR W K s k).2 = K.offs[(inK W K s k).2.nx]?.getD [])) := by
 obtain ⟨a, b, c, d, e, f⟩ := in_facts W K (inK W K s k)
 exact ⟨b, f⟩
end Go.Proofs.YtiajboiobjfcoaaGreatDoor
