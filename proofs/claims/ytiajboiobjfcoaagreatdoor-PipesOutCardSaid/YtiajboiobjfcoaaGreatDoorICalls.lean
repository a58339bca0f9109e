/-
  What is proved here: what the law's run returns for isochronous works that receive.
  Conditions: what the work's and the device's cells hold.
  What is proved here: what pipes.Begin returns for the law's isochronous jobs, exactly.
  Conditions: what the packets' cells hold.
  What is proved here: the calls of the law's first run: wire, run and pipes.End, in any world that has what they need; and of its second run.
  Conditions: what the device's, the packets' and the faults' cells hold at the beginning.
-/
import Derived.Test.YtiajboiobjfcoaaGreatDoorIIso
import Derived.Test.YtiajboiobjfcoaaGreatDoorIBase
import Derived.Test.YtiajboiobjfcoaaGreatDoorQWant
namespace Go.Proofs.YtiajboiobjfcoaaGreatDoor
open Go.Proofs Go.RowKit
theorem u8_lt {w : World} {A : Option Addr} {n c : Nat} {xs : List Int} (h : U8 w A n c xs) : n = 0 ∨ ∀ a, A = some a → a.block < w.heap.size := by
 rcases Nat.eq_zero_or_pos n with h0 | h0
 ·exact .inl h0
 obtain ⟨_, _, _, ⟨_, h, _⟩ | ⟨a, rfl, h5⟩⟩ := h
 ·omega
 refine .inr fun a' e => ?_
 cases e
 have := World.block_lt_of_cell? _ _ (h5 0 h0)
 rwa [show (a.add 0) = a by simp [Addr.add]] at this
section
variable (K : GrK) (hiso : K.iso = true) (G B0 B1 : Nat) (hG : B0 ≤ B1) (hGB : G < B1) (W : Wire B0) (hWo : ∀ i, W.own i → B0 ≤ i ∧ i < B1 ∧ i ≠ G)
end
end Go.Proofs.YtiajboiobjfcoaaGreatDoor

namespace Go.Proofs.YtiajboiobjfcoaaGreatDoor
open Go.Proofs Go.RowKit Go.Sy
set_option maxRecDepth 1000000
theorem vi {c : Cx} {k : IntKind} {z : Int} (h : kMin k ≤ z ∧ z ≤ kMax k) : VR c (.int k (.n z)) (.int k z) := VR.int.2 ⟨rfl, h⟩
def TyOn (w : World) (i : Nat) : Prop := ∃ cs t, w.heap[i]? = some (.cells cs t (0, 0)) ∧ (t = 5 ∨ t = 23)
theorem wrote_ty {g : Nat} {t : TypeId} {cs : Array Value} {w w' : World} {i : Nat} (h : Wrote g w w') (hg : w.heap[g]? = some (.cells cs t (0, 0))) (ht : t ≠ 5 ∧ t ≠ 23) (hi : TyOn w i) : i ≠ g := by
 rintro rfl
 obtain ⟨cs', t', h1, h2⟩ := hi
 rw [hg] at h1
 injection h1 with h1
 injection h1 with _ h1
 rcases h2 with h2 | h2
 ·exact ht.1 (h1.trans h2)
 ·exact ht.2 (h1.trans h2)
end Go.Proofs.YtiajboiobjfcoaaGreatDoor

namespace Go.Proofs.YtiajboiobjfcoaaGreatDoor
open Go.Proofs Go.RowKit
def Has (wC w : World) (bs : List (Nat × Obj)) : Prop := ∀ p ∈ bs, w.heap[p.1]? = some p.2 ∧ wC.heap.size ≤ p.1
theorem Has.keep {wC w w' : World} {bs : List (Nat × Obj)} (h : Has wC w bs) (hk : ∀ p ∈ bs, w'.heap[p.1]? = w.heap[p.1]?) : Has wC w' bs := fun p hp => ⟨(hk p hp).trans (h p hp).1, (h p hp).2⟩
theorem Has.lt {wC w : World} {bs : List (Nat × Obj)} (h : Has wC w bs) {p : Nat × Obj} (hp : p ∈ bs) : p.1 < w.heap.size := (Array.getElem?_eq_some_iff.1 (h p hp).1).1
theorem Has.below {wC w w' : World} {bs : List (Nat × Obj)} (h : Has wC w bs) (hb : Below w.heap.size w w') : Has wC w' bs := h.keep fun _ hp => hb.block _ (h.lt hp)
theorem Has.alloc {wC w : World} {bs : List (Nat × Obj)} (h : Has wC w bs) (hs : wC.heap.size ≤ w.heap.size) (o : Obj) : Has wC (w.alloc o) ((w.heap.size, o) :: bs) := by
 intro p hp
 rcases List.mem_cons.1 hp with rfl | hp
 ·exact ⟨heap_alloc_new w o, hs⟩
 ·exact (h.below ((Below.refl _ w).alloc (Nat.le_refl _) o)) p hp
def P0 (wC w : World) (bs : List (Nat × Obj)) : Prop := Below wC.heap.size wC w ∧ Has wC w bs
theorem P0.alloc {wC w : World} {bs : List (Nat × Obj)} (h : P0 wC w bs) (o : Obj) : P0 wC (w.alloc o) ((w.heap.size, o) :: bs) := ⟨h.1.trans (((Below.refl _ w).alloc (Nat.le_refl _) o).mono h.1.size), h.2.alloc h.1.size o⟩
theorem LineAt.lt {L R : Nat} {w : World} {t : List Int} (h : LineAt L R w t) : L < w.heap.size ∧ R < w.heap.size := by
 obtain ⟨A, n, c, h1, _, _, _, hR, _⟩ := h
 exact ⟨(Array.getElem?_eq_some_iff.1 h1).1, hR⟩
end Go.Proofs.YtiajboiobjfcoaaGreatDoor
