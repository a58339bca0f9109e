/-
  What is proved here: the law's isochronous device and a wire, as a bus; the wire without faults.
  Conditions: the wire's contract.
  What is proved here: what isochronous transactions do to the state of the device and of the wire.
  Conditions: none.
  What is proved here: the law's device of a stream OUT and a wire, as a bus; what its transactions do.
  Conditions: the wire's contract.
-/
import Derived.Test.YtiajboiobjfcoaaGreatDoorIHear
import Derived.Test.YtiajboiobjfcoaaGreatDoorIDo
import Derived.Test.YtiajboiobjfcoaaGreatDoorICk
import Derived.Test.YtiajboiobjfcoaaGreatDoorOHear
import Derived.Test.YtiajboiobjfcoaaGreatDoorOPlain
namespace Go.Proofs.YtiajboiobjfcoaaGreatDoor
open Go.Proofs Go.RowKit
structure Wire (B0 : Nat) where
 wv : Value
 one : wv.cells = #[wv]
 own : Nat → Prop
 τ : Type
 holds : World → τ → Prop
 nx : τ → Int × τ
 keep : ∀ {w w' : World} {t : τ}, holds w t → (∀ i, own i → w'.heap[i]? = w.heap[i]?) → holds w' t
 lt : ∀ {w : World} {t : τ}, holds w t → ∀ i, own i → i < w.heap.size
 next : ∀ {w : World} {t : τ}, holds w t → Calls Tryz.prog 82 #[wv] w fun e w' => e = .returned (.int .u8 (nx t).1) ∧ holds w' (nx t).2 ∧ Mx own no w no w'
def BusI (K : GrK) (G B0 B1 : Nat) (W : Wire B0) (w : World) (S : Nat → Prop) (s : W.τ × GrS) : Prop :=
 ∃ tv, GrAt K G B0 B1 w tv s.2 ∧ W.holds w s.1 ∧ (∀ i, S i ↔ (i = G ∨ tv.ownBlock = some i ∨ W.own i)) ∧ B1 ≤ w.heap.size ∧ s.2.wt = false
theorem GrAt.keep {K : GrK} {G B0 B1 : Nat} {w w' : World} {tv : Value} {s : GrS} (h : GrAt K G B0 B1 w tv s) (hk : ∀ i, (i < B0 ∨ i = G ∨ tv.ownBlock = some i) → w'.heap[i]? = w.heap[i]?) : GrAt K G B0 B1 w' tv s := by
 refine ⟨(hk G (.inr (.inl rfl))).trans h.box, ⟨h.own.1, h.own.2.imp id ?_⟩, h.rng, h.lists.far (fun i hi => hk i (.inl hi.1))⟩
 rintro ⟨g, cap, cur, rfl, hg, hh, h3⟩
 exact ⟨g, cap, cur, rfl, hg, (hk g (.inr (.inr rfl))).trans hh, h3⟩
end Go.Proofs.YtiajboiobjfcoaaGreatDoor

namespace Go.Proofs.YtiajboiobjfcoaaGreatDoor
open Go.Proofs Go.RowKit
section
variable (K : GrK) (hiso : K.iso = true) (G B0 B1 : Nat) (hG : B0 ≤ B1) (hGB : G < B1) (W : Wire B0) (hWo : ∀ i, W.own i → B0 ≤ i ∧ i < B1 ∧ i ≠ G)
end
def sumTo (bs : List (List Int)) (k : Nat) : Nat := ((bs.take k).map List.length).foldr (· + ·) 0
theorem sumTo_zero (bs : List (List Int)) : sumTo bs 0 = 0 := by simp [sumTo]
theorem sumTo_succ (bs : List (List Int)) (k : Nat) : sumTo bs (k + 1) = sumTo bs k + (bs[k]?.getD []).length := by
 unfold sumTo
 rw [List.take_add_one]
 cases h : bs[k]? with
 | none => simp
 | some b =>
  simp
  have : ∀ (l : List Nat) (x : Nat), List.foldr (· + ·) x l = List.foldr (· + ·) 0 l + x := by
   intro l x
   induction l with
   | nil => simp
   | cons a l ih => simp only [List.foldr_cons, ih]; omega
  rw [this]
theorem sumTo_le (bs : List (List Int)) (h : ∀ b ∈ bs, b.length ≤ 8) (k : Nat) : sumTo bs k ≤ 8 * k := by
 induction k with
 | zero => simp [sumTo_zero]
 | succ k ih =>
  rw [sumTo_succ]
  cases hk : bs[k]? with
  | none => simp; omega
  | some b => have := h b (List.mem_of_getElem? hk); simp; omega
end Go.Proofs.YtiajboiobjfcoaaGreatDoor

namespace Go.Proofs.YtiajboiobjfcoaaGreatDoor
open Go.Proofs Go.RowKit
def OutPk (p : Pk) : Prop := p.pid = 1 ∨ p.pid = 3 ∨ p.pid = 11
theorem takeB_wt (K : GrK) (s : GrS) (pid : Int) (xs : List Int) : (s.takeB K pid xs).2.wt = s.wt := by
 rcases takeB_cases K s pid xs with ⟨_, h⟩ | ⟨_, h | h | h⟩ <;> rw [h]
theorem hearOut_wt (K : GrK) (s : GrS) (p : Pk) : (s.hearOut K p).2.wt = false := by
 unfold GrS.hearOut
 split
 ·rfl
 ·split
  ·exact takeB_wt ..
  ·rfl
def outBus (K : GrK) (hiso : K.iso = false) (hin : K.inn = false) (G B0 B1 : Nat) (hG : B0 ≤ B1) (hGB : G < B1) (W : Wire B0) (hWo : ∀ i, W.own i → B0 ≤ i ∧ i < B1 ∧ i ≠ G) : Bus where
 σ := W.τ × GrS
 B0 := B0
 I := BusI K G B0 B1 W
 keep := by
  rintro w w' S s ⟨tv, hg, hw, hS, hB, ht⟩ hk hsz
  exact ⟨tv, hg.keep (fun i hi => hk i (hi.imp id fun hi => (hS i).2 (hi.elim .inl fun e => .inr (.inl e)))), W.keep hw (fun i hi => hk i (.inr ((hS i).2 (.inr (.inr hi))))), hS, by omega, ht⟩
 lt := by
  rintro w S s ⟨tv, hg, hw, hS, hB, ht⟩ i hi
  rcases (hS i).1 hi with rfl | hi | hi
  ·exact (Array.getElem?_eq_some_iff.1 hg.box).1
  ·exact own_lt hg.own i hi
  ·exact W.lt hw i hi
 base := by
  rintro w S s ⟨tv, hg, hw, hS, hB, ht⟩
  omega
 wv := W.wv
 one := W.one
 nx := fun s => ((W.nx s.1).1, ((W.nx s.1).2, s.2))
 next := by
  rintro w S ⟨t, s⟩ ⟨tv, hg, hw, hS, hB, ht⟩
  refine (W.next hw).mono ?_
  rintro e w' ⟨rfl, hw', hx⟩
  have hge := own_ge hg.own
  have hgl := own_lt hg.own
  have hGl := (Array.getElem?_eq_some_iff.1 hg.box).1
  have hk : ∀ i, (i < B0 ∨ i = G ∨ tv.ownBlock = some i) → w'.heap[i]? = w.heap[i]? := by
   intro i hi
   refine hx.block i ?_ (fun h => h) ?_
   ·rcases hi with hi | rfl | hi
    ·omega
    ·exact hGl
    ·exact hgl i hi
   ·intro ho
    obtain ⟨h1, h2, h3⟩ := hWo i ho
    rcases hi with hi | hi | hi
    ·omega
    ·exact h3 hi
    ·have := hge i hi; omega
  exact ⟨S, rfl, ⟨tv, hg.keep hk, hw', hS, Nat.le_trans hB hx.size, ht⟩, ⟨hx.os, hx.tape, hx.output, hx.size, fun i hi hs => hx.block i hi (fun h => h) (fun ho => hs ((hS i).2 (.inr (.inr ho)))), fun _ _ h => h⟩⟩
 ga := ⟨G, 0, none⟩
 hr := fun s p => ((s.2.hearOut K p).1, (s.1, (s.2.hearOut K p).2))
 room := fun s => s.2.room
 Ok := fun p => OutPk p ∧ p.data.length ≤ 1024
 hear := by
  rintro w S ⟨t, s⟩ p A n c ⟨tv, hg, hw, hS, hB, ht⟩ hr ⟨hp, hl⟩ hd
  have hn : n ≤ 1024 := by rw [← hd.1.1]; exact hl
  have hge := own_ge hg.own
  have hgl := own_lt hg.own
  have hGl := (Array.getElem?_eq_some_iff.1 hg.box).1
  refine (hear_out K hiso hin G B0 B1 tv s ht p hp A n c w hg hr hG hGB hB hd.1 (hd.2.imp id fun ⟨a, e, h⟩ => ⟨a, e, fun hh => h ((hS _).2 (.inl hh))⟩) hn).mono ?_
  rintro e w' ⟨q, b, A', n', c', tv', rfl, hg', hx, hu, hf, hq, ho⟩
  have hge' := own_ge hg'.own
  refine ⟨fun i => i = G ∨ tv'.ownBlock = some i ∨ W.own i, q, b, A', n', c', rfl, ⟨tv', hg', W.keep hw (fun i hi => ?_), fun _ => Iff.rfl, Nat.le_trans hB hx.size, hearOut_wt K s p⟩, ⟨hx.os, hx.tape, hx.output, hx.size, fun i hi hs => hx.block i hi (fun h => h) (fun h => hs ((hS i).2 (h.elim .inl fun e => .inr (.inl e)))), fun i hi h => ?_⟩, ⟨hu, hf.imp id fun ⟨a, e, hl⟩ => ⟨a, e, fun h => ?_⟩⟩, hf.imp id fun ⟨a, e, hl⟩ => ⟨a, e, hl.1⟩, hq⟩
  ·refine hx.block i (W.lt hw i hi) (fun h => h) (fun h => ?_)
   obtain ⟨h1, h2, h3⟩ := hWo i hi
   rcases h with h | h
   ·exact h3 h
   ·have := hge i h; omega
  ·rcases h with h | h | h
   ·exact (hS i).2 (.inl h)
   ·rcases ho i h with h | h
    ·exact (hS i).2 (.inr (.inl h))
    ·omega
   ·exact (hS i).2 (.inr (.inr h))
  ·rcases h with h | h | h
   ·omega
   ·have := hge' _ h; omega
   ·have := hWo _ h; omega
section
variable (K : GrK) (hiso : K.iso = false) (hin : K.inn = false) (G B0 B1 : Nat) (hG : B0 ≤ B1) (hGB : G < B1) (W : Wire B0) (hWo : ∀ i, W.own i → B0 ≤ i ∧ i < B1 ∧ i ≠ G)
theorem out_ans (p : Pk) (s : (outBus K hiso hin G B0 B1 hG hGB W hWo).σ) (q : Pk) (h : ((outBus K hiso hin G B0 B1 hG hGB W hWo).hr s p).1 = some q) : CkOk q ∧ q.data.length ≤ 1024 := by
 obtain ⟨t, g⟩ := s
 have h' : (g.hearOut K p).1 = some q := h
 unfold GrS.hearOut at h'
 split at h'
 ·cases h'
 ·split at h'
  ·simp only [Option.some.injEq] at h'
   subst h'
   refine ⟨?_, by simp⟩
   rcases takeB_cases K { g with wt := false, tk := false } p.pid p.data with ⟨_, h⟩ | ⟨_, h | h | h⟩ <;> rw [h]
   ·exact ck_shake (.inl rfl)
   ·exact ck_shake (.inr (.inr rfl))
   ·exact ck_shake (.inr (.inl rfl))
   ·exact ck_shake (.inl rfl)
  ·cases h'
theorem str_out (he : K.endp = 2) (s : W.τ × GrS) (tg : Bool) (xs : List Int) :
  (outBus K hiso hin G B0 B1 hG hGB W hWo).trOut true s 5 2 tg false xs = strOut W.nx K s tg xs := by
 obtain ⟨t, g⟩ := s
 have hm : K.mine ⟨1, 5, 2, []⟩ = true := by unfold GrK.mine; simp [he]
 unfold Bus.trOut Bus.dev Bus.speak outBus strOut dataPk
 by_cases h1 : (W.nx t).1 = 0
 ·by_cases h2 : (W.nx (W.nx t).2).1 = 0
  ·have hd : ¬ (if tg = true then (11 : Int) else 3) = 1 := by cases tg <;> decide
   by_cases h3 : (W.nx (W.nx (W.nx t).2).2).1 = 0
   ·simp [h1, h2, h3, GrS.hearOut, hm, hin, hd]
   ·simp [h1, h2, h3, GrS.hearOut, hm, hin, hd]
  ·simp [h1, h2, GrS.hearOut, hm, hin]
 ·simp [h1]
end
end Go.Proofs.YtiajboiobjfcoaaGreatDoor
