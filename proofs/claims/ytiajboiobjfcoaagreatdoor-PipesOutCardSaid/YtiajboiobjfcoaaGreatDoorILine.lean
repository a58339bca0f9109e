/-
  What is proved here: a wire with a list of faults, as a wire of the bus.
  Conditions: what its block and its list's cells hold.
-/
import Derived.Test.YtiajboiobjfcoaaGreatDoorOBus
namespace Go.Proofs.YtiajboiobjfcoaaGreatDoor
open Go.Proofs Go.RowKit
attribute [local go_sem] lt2 lt3 lt4 lt5
theorem u8_rest {w : World} {a : Addr} {n c : Nat} {f : Int} {xs : List Int} (h : U8 w (some a) (n + 1) c (f :: xs)) : U8 w (some (a.add 1)) n (c - 1) xs := by
 obtain ⟨h1, h2, h3, ⟨h4, _⟩ | ⟨a', h4, h5⟩⟩ := h
 ·cases h4
 ·cases h4
  refine ⟨by simpa using h1, fun x hx => h2 x (List.mem_cons_of_mem _ hx), by omega, .inr ⟨_, rfl, fun j hj => ?_⟩⟩
  rw [Addr.add_add]
  have := h5 (1 + j) (by omega)
  rw [Nat.add_comm 1 j] at this ⊢
  simpa using this
set_option maxHeartbeats 2000000 in
set_option maxRecDepth 1000000 in
theorem line_next0 (L c : Nat) (A : Option Addr) (w : World) (hL : w.heap[L]? = some (.cells #[.slice A 0 c] 126 (0, 0))) :
  Calls Tryz.prog 132 #[.pointer (some ⟨L, 0, none⟩)] w fun e w' => e = .returned (.int .u8 0) ∧ w' = w := by
 have c0 := cell_of hL 0
 go_enter Tryz.func132, Tryz.ntmps132
 go_wp2
 go_ret
 exact ⟨rfl, rfl⟩
set_option maxHeartbeats 2000000 in
set_option maxRecDepth 1000000 in
theorem line_next1 (L n c : Nat) (a : Addr) (f : Int) (fs : List Int) (w : World) (hL : w.heap[L]? = some (.cells #[.slice (some a) (n + 1) c] 126 (0, 0))) (hu : U8 w (some a) (n + 1) c (f :: fs)) (hn : n ≤ 1000) :
  Calls Tryz.prog 132 #[.pointer (some ⟨L, 0, none⟩)] w fun e w' => e = .returned (.int .u8 f) ∧ Wrote L w w' ∧ ∃ A' c', w'.heap[L]? = some (.cells #[.slice A' n c'] 126 (0, 0)) ∧ ((n = 0 ∧ A' = some a) ∨ (A' = some (a.add 1) ∧ c' = c - 1)) := by
 have c0 := cell_of hL 0
 have f0 := frozen_of hL 0
 have hc : n + 1 ≤ c := hu.2.2.1
 obtain ⟨_, _, _, ⟨h4, _⟩ | ⟨a', h4, h5⟩⟩ := hu
 ·cases h4
 cases h4
 have q0 := h5 0 (by omega)
 simp only [List.getElem?_cons_zero, Option.getD_some] at q0
 rw [show a.add 0 = a by simp [Addr.add]] at q0
 have q1 : (((n + 1 : Nat) : Int) == 0) = false := by simp; omega
 have q2 : (0 : Int) < ((n + 1 : Nat) : Int) := by omega
 go_enter Tryz.func132, Tryz.ntmps132
 go_wp2
 all_goals
  go_ret
  refine ⟨rfl, (Wrote.refl L w).setCell 0 _, _, _, setCell_heap hL 0 _, ?_⟩
  first
  | exact .inr ⟨rfl, rfl⟩
  | exact .inl ⟨by omega, rfl⟩
def lineNx (t : List Int) : Int × List Int := (t.headD 0, t.tail)
def LineAt (L R : Nat) (w : World) (t : List Int) : Prop :=
 ∃ A n c, w.heap[L]? = some (.cells #[.slice A n c] 126 (0, 0)) ∧ U8 w A n c t ∧ n ≤ 1000 ∧ (n = 0 ∨ ∃ a, A = some a ∧ a.block = R) ∧ R < w.heap.size ∧ (n = 0 ∨ R ≠ L)
theorem LineAt.keep {L R : Nat} {w w' : World} {t : List Int} (h : LineAt L R w t) (hk : ∀ i, (i = L ∨ i = R) → w'.heap[i]? = w.heap[i]?) : LineAt L R w' t := by
 obtain ⟨A, n, c, h1, ⟨u1, u2, u3, u4⟩, hn, hf, hR, hne⟩ := h
 refine ⟨A, n, c, (hk L (.inl rfl)).trans h1, ⟨u1, u2, u3, u4.imp id ?_⟩, hn, hf, ?_, hne⟩
 ·rintro ⟨a, rfl, h5⟩
  refine ⟨a, rfl, fun j hj => ?_⟩
  rcases hf with h0 | ⟨a', e, hb⟩
  ·omega
  ·cases e
   exact (World.cell?_of_block (w := w) (w' := w') (a := a.add j) (by rw [add_block', hb]; exact hk R (.inr rfl))).trans (h5 j hj)
 ·have := hk R (.inr rfl)
  rw [Array.getElem?_eq_getElem hR] at this
  exact (Array.getElem?_eq_some_iff.1 this).1
set_option maxHeartbeats 2000000 in
set_option maxRecDepth 1000000 in
theorem line_ret {L R : Nat} {w : World} {t : List Int} (h : LineAt L R w t) :
  Calls Tryz.prog 82 #[.iface 35 (.pointer (some ⟨L, 0, none⟩))] w fun e w' => e = .returned (.int .u8 (lineNx t).1) ∧ LineAt L R w' (lineNx t).2 ∧ Mx (fun i => i = L ∨ i = R) no w no w' := by
 have hna : ∀ w, (nilAhead 315 35 (.pointer (some ⟨L, 0, none⟩)) "Next").run Tryz.prog w = .ok (some false) w := fun _ => by kernel_rfl
 have hme : ∀ w, (method 315 35 (.pointer (some ⟨L, 0, none⟩)) "Next").run Tryz.prog w = .ok (132, .pointer (some ⟨L, 0, none⟩)) w := fun _ => by kernel_rfl
 obtain ⟨A, n, c, h1, hu, hn, hf, hR, hne⟩ := id h
 cases t with
 | nil =>
  have e0 : n = 0 := by have := hu.1; simpa using this.symm
  subst e0
  have hl := line_next0 L c A w h1
  clear h1 hu hf
  go_enter Tryz.func82, Tryz.ntmps82
  go_wp2_with fail
  refine hl.mono ?_
  rintro e w' ⟨rfl, rfl⟩
  go_wp2
  go_ret
  exact ⟨rfl, h, Mx.refl _ _ _⟩
 | cons f fs =>
  obtain ⟨n, rfl⟩ : ∃ m, n = m + 1 := by have := hu.1; simp at this; exact ⟨fs.length, by omega⟩
  obtain ⟨a, rfl, hb⟩ : ∃ a, A = some a ∧ a.block = R := by rcases hf with h | h; omega; exact h
  have hl := line_next1 L n c a f fs w h1 hu (by omega)
  have hend : ∀ w' A' c', Wrote L w w' → w'.heap[L]? = some (.cells #[.slice A' n c'] 126 (0, 0)) → ((n = 0 ∧ A' = some a) ∨ (A' = some (a.add 1) ∧ c' = c - 1)) → LineAt L R w' fs ∧ Mx (fun i => i = L ∨ i = R) no w no w' := by
   intro w' A' c' hW hL' hA
   have hu1 := u8_rest hu
   have hsz := hW.size
   have hne' : R ≠ L := by rcases hne with h | h; omega; exact h
   refine ⟨⟨A', n, c', hL', ?_, by omega, ?_, by omega, .inr hne'⟩, ⟨hW.os, hW.tape, hW.output, Nat.le_of_eq hsz.symm, fun i hi _ hx => hW.other i (fun e => hx (.inl e)), fun _ _ h => h⟩⟩
   ·rcases hA with ⟨rfl, rfl⟩ | ⟨rfl, rfl⟩
    ·exact ⟨hu1.1, hu1.2.1, Nat.zero_le _, .inr ⟨a, rfl, fun j hj => by omega⟩⟩
    ·exact hu1.wrote hW (.inr ⟨_, rfl, by rw [add_block']; omega⟩)
   ·rcases hA with ⟨h0, _⟩ | ⟨rfl, rfl⟩
    ·exact .inl h0
    ·exact .inr ⟨_, rfl, by rw [add_block']; exact hb⟩
  clear h1 hu h
  go_enter Tryz.func82, Tryz.ntmps82
  go_wp2_with fail
  refine hl.mono ?_
  rintro e w' ⟨rfl, hW, A', c', hL', hA⟩
  obtain ⟨k1, k2⟩ := hend w' A' c' hW hL' hA
  clear hend hL' hA hW hl
  go_wp2
  go_ret
  exact ⟨rfl, k1, k2⟩
def lineWire (B0 L R : Nat) : Wire B0 where
 wv := .iface 35 (.pointer (some ⟨L, 0, none⟩))
 one := rfl
 own := fun i => i = L ∨ i = R
 τ := List Int
 holds := LineAt L R
 nx := lineNx
 keep := fun h hk => h.keep hk
 lt := by
  rintro w t ⟨A, n, c, h1, _, _, _, hR, _⟩ i (rfl | rfl)
  ·exact (Array.getElem?_eq_some_iff.1 h1).1
  ·exact hR
 next := fun h => line_ret h
end Go.Proofs.YtiajboiobjfcoaaGreatDoor
