/-
  What is proved here: the law's isochronous device and a wire, as a bus; the wire without faults.
  Conditions: the wire's contract.
  What is proved here: the law's device of a stream IN and a wire, as a bus; what its transactions do.
  Conditions: the wire's contract.
  What is proved here: a wire with a list of faults, as a wire of the bus.
  Conditions: what its block and its list's cells hold.
-/
import Derived.Test.YtiajboiobjfcoaaGreatDoorOAns
import Derived.Test.YtiajboiobjfcoaaGreatDoorIDo
import Derived.Test.YtiajboiobjfcoaaGreatDoorICk
import Derived.Test.YtiajboiobjfcoaaGreatDoorNFin
namespace Go.Proofs.YtiajboiobjfcoaaGreatDoor
open Go.Proofs Go.RowKit
structure Wire (B0 : Nat) where
 wv : Value
 one : wv.cells = #[wv]
 own : Nat → Prop
 τ : Type
 holds : World → τ → Prop
 nx : τ → Int × τ
 keep : ∀ {w w' : World} {t : τ}, holds w t → (∀ i, own i → w'.heap[i]? = w.heap[i]?) → holds w' t
 lt : ∀ {w : World} {t : τ}, holds w t → ∀ i, own i → i < w.heap.size
 next : ∀ {w : World} {t : τ}, holds w t → Calls Tryz.prog 82 #[wv] w fun e w' => e = .returned (.int .u8 (nx t).1) ∧ holds w' (nx t).2 ∧ Mx own no w no w'
theorem GrAt.keep {K : GrK} {G B0 B1 : Nat} {w w' : World} {tv : Value} {s : GrS} (h : GrAt K G B0 B1 w tv s) (hk : ∀ i, (i < B0 ∨ i = G ∨ tv.ownBlock = some i) → w'.heap[i]? = w.heap[i]?) : GrAt K G B0 B1 w' tv s := by
 refine ⟨(hk G (.inr (.inl rfl))).trans h.box, ⟨h.own.1, h.own.2.imp id ?_⟩, h.rng, h.lists.far (fun i hi => hk i (.inl hi.1))⟩
 rintro ⟨g, cap, cur, rfl, hg, hh, h3⟩
 exact ⟨g, cap, cur, rfl, hg, (hk g (.inr (.inr rfl))).trans hh, h3⟩
end Go.Proofs.YtiajboiobjfcoaaGreatDoor

namespace Go.Proofs.YtiajboiobjfcoaaGreatDoor
open Go.Proofs Go.RowKit
def InPk (p : Pk) : Prop := p.pid = 9 ∨ p.pid = 2
def BusN (K : GrK) (G B0 B1 : Nat) (W : Wire B0) (w : World) (S : Nat → Prop) (s : W.τ × GrS) : Prop :=
 ∃ tv, GrAt K G B0 B1 w tv s.2 ∧ W.holds w s.1 ∧ (∀ i, S i ↔ (i = G ∨ tv.ownBlock = some i ∨ W.own i)) ∧ B1 ≤ w.heap.size
def inBus (K : GrK) (hiso : K.iso = false) (hin : K.inn = true) (G B0 B1 : Nat) (hG : B0 ≤ B1) (hGB : G < B1) (W : Wire B0) (hWo : ∀ i, W.own i → B0 ≤ i ∧ i < B1 ∧ i ≠ G) : Bus where
 σ := W.τ × GrS
 B0 := B0
 I := BusN K G B0 B1 W
 keep := by
  rintro w w' S s ⟨tv, hg, hw, hS, hB⟩ hk hsz
  exact ⟨tv, hg.keep (fun i hi => hk i (hi.imp id fun hi => (hS i).2 (hi.elim .inl fun e => .inr (.inl e)))), W.keep hw (fun i hi => hk i (.inr ((hS i).2 (.inr (.inr hi))))), hS, by omega⟩
 lt := by
  rintro w S s ⟨tv, hg, hw, hS, hB⟩ i hi
  rcases (hS i).1 hi with rfl | hi | hi
  ·exact (Array.getElem?_eq_some_iff.1 hg.box).1
  ·exact own_lt hg.own i hi
  ·exact W.lt hw i hi
 base := by
  rintro w S s ⟨tv, hg, hw, hS, hB⟩
  omega
 wv := W.wv
 one := W.one
 nx := fun s => ((W.nx s.1).1, ((W.nx s.1).2, s.2))
 next := by
  rintro w S ⟨t, s⟩ ⟨tv, hg, hw, hS, hB⟩
  refine (W.next hw).mono ?_
  rintro e w' ⟨rfl, hw', hx⟩
  have hge := own_ge hg.own
  have hgl := own_lt hg.own
  have hGl := (Array.getElem?_eq_some_iff.1 hg.box).1
  have hk : ∀ i, (i < B0 ∨ i = G ∨ tv.ownBlock = some i) → w'.heap[i]? = w.heap[i]? := by
   intro i hi
   refine hx.block i ?_ (fun h => h) ?_
   ·rcases hi with hi | rfl | hi
    ·omega
    ·exact hGl
    ·exact hgl i hi
   ·intro ho
    obtain ⟨h1, h2, h3⟩ := hWo i ho
    rcases hi with hi | hi | hi
    ·omega
    ·exact h3 hi
    ·have := hge i hi; omega
  exact ⟨S, rfl, ⟨tv, hg.keep hk, hw', hS, Nat.le_trans hB hx.size⟩, ⟨hx.os, hx.tape, hx.output, hx.size, fun i hi hs => hx.block i hi (fun h => h) (fun ho => hs ((hS i).2 (.inr (.inr ho)))), fun _ _ h => h⟩⟩
 ga := ⟨G, 0, none⟩
 hr := fun s p => ((s.2.hearIn K p).1, (s.1, (s.2.hearIn K p).2))
 room := fun s => s.2.room
 Ok := fun p => InPk p
 hear := by
  rintro w S ⟨t, s⟩ p A n c ⟨tv, hg, hw, hS, hB⟩ hr hp hd
  have hge := own_ge hg.own
  have hgl := own_lt hg.own
  have hGl := (Array.getElem?_eq_some_iff.1 hg.box).1
  refine (hear_in K hiso hin G B0 B1 tv s p hp A n c w hg hr hG hGB hB hd.1 (hd.2.imp id fun ⟨a, e, h⟩ => ⟨a, e, fun hh => h ((hS _).2 (.inl hh))⟩)).mono ?_
  rintro e w' ⟨q, b, A', n', c', tv', rfl, hg', hx, hu, hf, hq, ho⟩
  have hge' := own_ge hg'.own
  refine ⟨fun i => i = G ∨ tv'.ownBlock = some i ∨ W.own i, q, b, A', n', c', rfl, ⟨tv', hg', W.keep hw (fun i hi => ?_), fun _ => Iff.rfl, Nat.le_trans hB hx.size⟩, ⟨hx.os, hx.tape, hx.output, hx.size, fun i hi hs => hx.block i hi (fun h => h) (fun h => hs ((hS i).2 (h.elim .inl fun e => .inr (.inl e)))), fun i hi h => ?_⟩, ⟨hu, hf.imp id fun ⟨a, e, hl⟩ => ⟨a, e, fun h => ?_⟩⟩, hf.imp id fun ⟨a, e, hl⟩ => ⟨a, e, hl.1⟩, hq⟩
  ·refine hx.block i (W.lt hw i hi) (fun h => h) (fun h => ?_)
   obtain ⟨h1, h2, h3⟩ := hWo i hi
   rcases h with h | h
   ·exact h3 h
   ·have := hge i h; omega
  ·rcases h with h | h | h
   ·exact (hS i).2 (.inl h)
   ·rcases ho i h with h | h
    ·exact (hS i).2 (.inr (.inl h))
    ·omega
   ·exact (hS i).2 (.inr (.inr h))
  ·rcases h with h | h | h
   ·omega
   ·have := hge' _ h; omega
   ·have := hWo _ h; omega
section
variable (K : GrK) (hiso : K.iso = false) (hin : K.inn = true) (G B0 B1 : Nat) (hG : B0 ≤ B1) (hGB : G < B1) (W : Wire B0) (hWo : ∀ i, W.own i → B0 ≤ i ∧ i < B1 ∧ i ≠ G)
theorem in_ans (hl : ∀ b ∈ K.offs, b.length ≤ 8) (p : Pk) (s : (inBus K hiso hin G B0 B1 hG hGB W hWo).σ) (q : Pk) (h : ((inBus K hiso hin G B0 B1 hG hGB W hWo).hr s p).1 = some q) : CkOk q ∧ q.data.length ≤ 1024 := by
 obtain ⟨t, g⟩ := s
 have h' : (g.hearIn K p).1 = some q := h
 unfold GrS.hearIn at h'
 split at h'
 ·split at h'
  ·rcases giveB_cases K { g with wt := false, tk := false } with hc | hc | ⟨_, hc⟩ <;> rw [hc] at h' <;> simp only [Option.some.injEq] at h' <;> subst h'
   ·exact ⟨ck_shake (.inr (.inr rfl)), by simp⟩
   ·exact ⟨ck_shake (.inr (.inl rfl)), by simp⟩
   ·have hb : (K.offs[g.nx]?.getD []).length ≤ 8 := by
     cases h : K.offs[g.nx]? with
     | none => simp
     | some b => exact hl b (List.mem_of_getElem? h)
    exact ⟨ck_data g.tg _ (by omega), by show (K.offs[g.nx]?.getD []).length ≤ _; omega⟩
  ·cases h'
 ·cases h'
theorem str_in (he : K.endp = 2) (hl : ∀ b ∈ K.offs, b.length ≤ 8) (s : W.τ × GrS) (tg : Bool) :
  (inBus K hiso hin G B0 B1 hG hGB W hWo).trIn true s 5 2 tg false 8 = strIn W.nx K s tg := by
 obtain ⟨t, g⟩ := s
 have hm : K.mine ⟨9, 5, 2, []⟩ = true := by unfold GrK.mine; simp [he]
 have hb : ¬ (8 : Int) < ((K.offs[g.nx]?.getD []).length : Int) := by
  cases h : K.offs[g.nx]? with
  | none => simp
  | some b => have := hl b (List.mem_of_getElem? h); simp; omega
 unfold Bus.trIn Bus.dev Bus.speak inBus strIn
 by_cases h1 : (W.nx t).1 = 0
 ·by_cases h2 : (W.nx (W.nx t).2).1 = 0
  ·have hga := giveB_cases K { g with wt := false, tk := false }
   rcases hga with hc | hc | ⟨_, hc⟩
   ·simp [h1, h2, GrS.hearIn, hm, hc]
   ·simp [h1, h2, GrS.hearIn, hm, hc]
   ·by_cases h3 : (W.nx (W.nx (W.nx t).2).2).1 = 0
    ·simp [h1, h2, h3, GrS.hearIn, hm, hc, hb, GrS.ack]
    ·simp [h1, h2, h3, GrS.hearIn, hm, hc, hb]
  ·have hga := giveB_cases K { g with wt := false, tk := false }
   rcases hga with hc | hc | ⟨_, hc⟩ <;> simp [h1, h2, GrS.hearIn, hm, hc]
 ·simp [h1]
end
end Go.Proofs.YtiajboiobjfcoaaGreatDoor

namespace Go.Proofs.YtiajboiobjfcoaaGreatDoor
open Go.Proofs Go.RowKit
attribute [local go_sem] lt2 lt3 lt4 lt5
theorem u8_rest {w : World} {a : Addr} {n c : Nat} {f : Int} {xs : List Int} (h : U8 w (some a) (n + 1) c (f :: xs)) : U8 w (some (a.add 1)) n (c - 1) xs := by
 obtain ⟨h1, h2, h3, ⟨h4, _⟩ | ⟨a', h4, h5⟩⟩ := h
 ·cases h4
 ·cases h4
  refine ⟨by simpa using h1, fun x hx => h2 x (List.mem_cons_of_mem _ hx), by omega, .inr ⟨_, rfl, fun j hj => ?_⟩⟩
  rw [Addr.add_add]
  have := h5 (1 + j) (by omega)
  rw [Nat.add_comm 1 j] at this ⊢
  simpa using this
set_option maxHeartbeats 2000000 in
set_option maxRecDepth 1000000 in
theorem line_next0 (L c : Nat) (A : Option Addr) (w : World) (hL : w.heap[L]? = some (.cells #[.slice A 0 c] 126 (0, 0))) :
  Calls Tryz.prog 132 #[.pointer (some ⟨L, 0, none⟩)] w fun e w' => e = .returned (.int .u8 0) ∧ w' = w := by
 have c0 := cell_of hL 0
 go_enter Tryz.func132, Tryz.ntmps132
 go_wp2
 go_ret
 exact ⟨rfl, rfl⟩
set_option maxHeartbeats 2000000 in
set_option maxRecDepth 1000000 in
theorem line_next1 (L n c : Nat) (a : Addr) (f : Int) (fs : List Int) (w : World) (hL : w.heap[L]? = some (.cells #[.slice (some a) (n + 1) c] 126 (0, 0))) (hu : U8 w (some a) (n + 1) c (f :: fs)) (hn : n ≤ 1000) :
  Calls Tryz.prog 132 #[.pointer (some ⟨L, 0, none⟩)] w fun e w' => e = .returned (.int .u8 f) ∧ Wrote L w w' ∧ ∃ A' c', w'.heap[L]? = some (.cells #[.slice A' n c'] 126 (0, 0)) ∧ ((n = 0 ∧ A' = some a) ∨ (A' = some (a.add 1) ∧ c' = c - 1)) := by
 have c0 := cell_of hL 0
 have f0 := frozen_of hL 0
 have hc : n + 1 ≤ c := hu.2.2.1
 obtain ⟨_, _, _, ⟨h4, _⟩ | ⟨a', h4, h5⟩⟩ := hu
 ·cases h4
 cases h4
 have q0 := h5 0 (by omega)
 simp only [List.getElem?_cons_zero, Option.getD_some] at q0
 rw [show a.add 0 = a by simp [Addr.add]] at q0
 have q1 : (((n + 1 : Nat) : Int) == 0) = false := by simp; omega
 have q2 : (0 : Int) < ((n + 1 : Nat) : Int) := by omega
 go_enter Tryz.func132, Tryz.ntmps132
 go_wp2
 all_goals
  go_ret
  refine ⟨rfl, (Wrote.refl L w).setCell 0 _, _, _, setCell_heap hL 0 _, ?_⟩
  first
  | exact .inr ⟨rfl, rfl⟩
  | exact .inl ⟨by omega, rfl⟩
def lineNx (t : List Int) : Int × List Int := (t.headD 0, t.tail)
def LineAt (L R : Nat) (w : World) (t : List Int) : Prop :=
 ∃ A n c, w.heap[L]? = some (.cells #[.slice A n c] 126 (0, 0)) ∧ U8 w A n c t ∧ n ≤ 1000 ∧ (n = 0 ∨ ∃ a, A = some a ∧ a.block = R) ∧ R < w.heap.size ∧ (n = 0 ∨ R ≠ L)
theorem LineAt.keep {L R : Nat} {w w' : World} {t : List Int} (h : LineAt L R w t) (hk : ∀ i, (i = L ∨ i = R) → w'.heap[i]? = w.heap[i]?) : LineAt L R w' t := by
 obtain ⟨A, n, c, h1, ⟨u1, u2, u3, u4⟩, hn, hf, hR, hne⟩ := h
 refine ⟨A, n, c, (hk L (.inl rfl)).trans h1, ⟨u1, u2, u3, u4.imp id ?_⟩, hn, hf, ?_, hne⟩
 ·rintro ⟨a, rfl, h5⟩
  refine ⟨a, rfl, fun j hj => ?_⟩
  rcases hf with h0 | ⟨a', e, hb⟩
  ·omega
  ·cases e
   exact (World.cell?_of_block (w := w) (w' := w') (a := a.add j) (by rw [add_block', hb]; exact hk R (.inr rfl))).trans (h5 j hj)
 ·have := hk R (.inr rfl)
  rw [Array.getElem?_eq_getElem hR] at this
  exact (Array.getElem?_eq_some_iff.1 this).1
set_option maxHeartbeats 2000000 in
set_option maxRecDepth 1000000 in
theorem line_ret {L R : Nat} {w : World} {t : List Int} (h : LineAt L R w t) :
  Calls Tryz.prog 82 #[.iface 35 (.pointer (some ⟨L, 0, none⟩))] w fun e w' => e = .returned (.int .u8 (lineNx t).1) ∧ LineAt L R w' (lineNx t).2 ∧ Mx (fun i => i = L ∨ i = R) no w no w' := by
 have hna : ∀ w, (nilAhead 315 35 (.pointer (some ⟨L, 0, none⟩)) "Next").run Tryz.prog w = .ok (some false) w := fun _ => by kernel_rfl
 have hme : ∀ w, (method 315 35 (.pointer (some ⟨L, 0, none⟩)) "Next").run Tryz.prog w = .ok (132, .pointer (some ⟨L, 0, none⟩)) w := fun _ => by kernel_rfl
 obtain ⟨A, n, c, h1, hu, hn, hf, hR, hne⟩ := id h
 cases t with
 | nil =>
  have e0 : n = 0 := by have := hu.1; simpa using this.symm
  subst e0
  have hl := line_next0 L c A w h1
  clear h1 hu hf
  go_enter Tryz.func82, Tryz.ntmps82
  go_wp2_with fail
  refine hl.mono ?_
  rintro e w' ⟨rfl, rfl⟩
  go_wp2
  go_ret
  exact ⟨rfl, h, Mx.refl _ _ _⟩
 | cons f fs =>
  obtain ⟨n, rfl⟩ : ∃ m, n = m + 1 := by have := hu.1; simp at this; exact ⟨fs.length, by omega⟩
  obtain ⟨a, rfl, hb⟩ : ∃ a, A = some a ∧ a.block = R := by rcases hf with h | h; omega; exact h
  have hl := line_next1 L n c a f fs w h1 hu (by omega)
  have hend : ∀ w' A' c', Wrote L w w' → w'.heap[L]? = some (.cells #[.slice A' n c'] 126 (0, 0)) → ((n = 0 ∧ A' = some a) ∨ (A' = some (a.add 1) ∧ c' = c - 1)) → LineAt L R w' fs ∧ Mx (fun i => i = L ∨ i = R) no w no w' := by
   intro w' A' c' hW hL' hA
   have hu1 := u8_rest hu
   have hsz := hW.size
   have hne' : R ≠ L := by rcases hne with h | h; omega; exact h
   refine ⟨⟨A', n, c', hL', ?_, by omega, ?_, by omega, .inr hne'⟩, ⟨hW.os, hW.tape, hW.output, Nat.le_of_eq hsz.symm, fun i hi _ hx => hW.other i (fun e => hx (.inl e)), fun _ _ h => h⟩⟩
   ·rcases hA with ⟨rfl, rfl⟩ | ⟨rfl, rfl⟩
    ·exact ⟨hu1.1, hu1.2.1, Nat.zero_le _, .inr ⟨a, rfl, fun j hj => by omega⟩⟩
    ·exact hu1.wrote hW (.inr ⟨_, rfl, by rw [add_block']; omega⟩)
   ·rcases hA with ⟨h0, _⟩ | ⟨rfl, rfl⟩
    ·exact .inl h0
    ·exact .inr ⟨_, rfl, by rw [add_block']; exact hb⟩
  clear h1 hu h
  go_enter Tryz.func82, Tryz.ntmps82
  go_wp2_with fail
  refine hl.mono ?_
  rintro e w' ⟨rfl, hW, A', c', hL', hA⟩
  obtain ⟨k1, k2⟩ := hend w' A' c' hW hL' hA
  clear hend hL' hA hW hl
  go_wp2
  go_ret
  exact ⟨rfl, k1, k2⟩
def lineWire (B0 L R : Nat) : Wire B0 where
 wv := .iface 35 (.pointer (some ⟨L, 0, none⟩))
 one := rfl
 own := fun i => i = L ∨ i = R
 τ := List Int
 holds := LineAt L R
 nx := lineNx
 keep := fun h hk => h.keep hk
 lt := by
  rintro w t ⟨A, n, c, h1, _, _, _, hR, _⟩ i (rfl | rfl)
  ·exact (Array.getElem?_eq_some_iff.1 h1).1
  ·exact hR
 next := fun h => line_ret h
end Go.Proofs.YtiajboiobjfcoaaGreatDoor
