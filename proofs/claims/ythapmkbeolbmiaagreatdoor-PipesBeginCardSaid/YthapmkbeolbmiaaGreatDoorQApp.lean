/-
  What is proved here: what append returns for a slice that is full, and where nothing is appended.
  Conditions: what the slices' cells hold.
-/
import Derived.Test.YthapmkbeolbmiaaGreatDoorQStart
namespace Go.Proofs.YthapmkbeolbmiaaGreatDoor
open Go.Proofs Go.RowKit

theorem Sls.cells {w : World} {A : Option Addr} {n c : Nat} {vs : List Value} (h : Sls w A n c vs) (hn : 0 < n) : ∃ a, A = some a ∧ ∀ (j : Nat) v, vs[j]? = some v → w.cell? (a.add j) = some v := by
  obtain ⟨_, _, ⟨_, h3, _⟩ | ⟨a, rfl, h3⟩⟩ := h
  · omega
  · exact ⟨a, rfl, h3⟩

theorem grown_sls {w : World} {A B : Option Addr} {n m c : Nat} {vs us : List Value} (hA : Sls w A n n vs) (hB : Sls w B m c us) (hm : 0 < m) (hn : n + m ≤ 65536) :
    ∃ cap w', (Builtin.append_ #[53, 53] 53 #[.slice A n n, .slice B m c]).run Tryz.prog w = .ok (.slice (some ⟨w.heap.size, 0, none⟩) (n + m) cap) w' ∧ Sls w' (some ⟨w.heap.size, 0, none⟩) (n + m) cap (vs ++ us) ∧ Below w.heap.size w w' ∧ w.heap.size < w'.heap.size := by
  obtain ⟨i0, hi, hz0, hz1, hz2⟩ := info_parts info30
  obtain ⟨b, rfl, hb⟩ := hB.cells hm
  have hul : us.length = m := hB.1
  have hvl : vs.length = n := hA.1
  have hcell : ∀ (w1 : World) (zs : Array Value), w1.heap = w.heap → ∀ (j : Nat) v, (vs ++ us)[j]? = some v → (w1.alloc (.cells (vs.toArray ++ us.toArray ++ zs) 30)).cell? ((⟨w.heap.size, 0, none⟩ : Addr).add j) = some v := by
    intro w1 zs hw j v hj
    rw [show (⟨w.heap.size, 0, none⟩ : Addr).add j = ⟨w.heap.size, j, none⟩ by unfold Addr.add; split <;> simp_all]
    have h1 : (w1.alloc (.cells (vs.toArray ++ us.toArray ++ zs) 30)).heap[w.heap.size]? = some (.cells (vs.toArray ++ us.toArray ++ zs) 30) := by
      have := heap_alloc_new w1 (.cells (vs.toArray ++ us.toArray ++ zs) 30)
      rw [hw] at this
      exact this
    rw [cell_of h1 j]
    have hl := (List.getElem?_eq_some_iff.1 hj).1
    have : (vs.toArray ++ us.toArray ++ zs)[j]? = ((vs ++ us).toArray ++ zs)[j]? := by simp
    rw [this, Array.getElem?_append_left (by simpa using hl)]
    simpa using hj
  have grow : ∀ a : Addr, A = some a → (∀ (j : Nat) v, vs[j]? = some v → w.cell? (a.add j) = some v) → ∃ cap w', (Builtin.append_ #[53, 53] 53 #[.slice A n n, .slice (some b) m c]).run Tryz.prog w = .ok (.slice (some ⟨w.heap.size, 0, none⟩) (n + m) cap) w' ∧ Sls w' (some ⟨w.heap.size, 0, none⟩) (n + m) cap (vs ++ us) ∧ Below w.heap.size w w' ∧ w.heap.size < w'.heap.size := by
    rintro a rfl ha
    have hrun := run_append_grow (P := Tryz.prog) w 53 53 30 i0 (.slice none 0 0) Tryz.underlying53 hi hz0 a n n vs (by rw [hz1]; omega) ha b m c us (by rw [hz1]; omega) hb (by omega) (by omega) (growslice_fits (by omega) (by rw [hz2]; omega))
    refine ⟨_, _, hrun, ⟨by simp [hvl, hul], grownCap_ge _ _ _ _, .inr ⟨_, rfl, hcell w.drew _ rfl⟩⟩, ?_, ?_⟩
    · exact ((Below.refl _ w).drew).alloc (by simp) _
    · simp
  obtain ⟨_, _, ⟨rfl, rfl, _⟩ | ⟨a, rfl, ha⟩⟩ := hA
  · have hvs : vs = [] := List.length_eq_zero_iff.1 hvl
    subst hvs
    have hrun := run_append_nil (P := Tryz.prog) w 53 53 30 i0 (.slice none 0 0) Tryz.underlying53 hi hz0 b m c us (by rw [hz1]; omega) hb hm (by omega) (by rw [hz2]; omega)
    have hc := hcell w.drew (Builtin.zeroCells (Value.slice none 0 0).cells (grownCap w m 0 30 - m)) rfl
    simp only [List.nil_append] at hc
    have e0 : ([] : List Value).toArray ++ us.toArray = us.toArray := by simp
    rw [e0] at hc
    refine ⟨_, _, by rw [Nat.zero_add]; exact hrun, ⟨by simp [hul], by rw [Nat.zero_add]; exact grownCap_ge _ _ _ _, .inr ⟨_, rfl, by simpa using hc⟩⟩, ?_, ?_⟩
    · exact ((Below.refl _ w).drew).alloc (by simp) _
    · simp
  · exact grow a rfl ha

theorem zero_app (w : World) (A B : Option Addr) (c : Nat) (n : Nat) :
    (Builtin.append_ #[53, 53] 53 #[.slice A n n, .slice B 0 c]).run Tryz.prog w = .ok (.slice A n n) w := by
  obtain ⟨i0, hi, hz0, hz1, hz2⟩ := info_parts info30
  have hul : Tryz.prog.underlying 53 = some (.slice 30) := Tryz.underlying53
  have hf : ∀ b, (Builtin.firstCells i0.size 0 (.slice (some b) 0 c)).run Tryz.prog w = .ok #[] w := fun b => by
    have := run_firstCells_some (P := Tryz.prog) w i0.size 0 b 0 c [] (by simp) (by simp)
    simpa using this
  cases A <;> cases B <;> simp [Builtin.append_, run_underlying hul, sizeOf, typeInfo, hi, Builtin.lenOf, hf, run_firstCells_none, storeCells, Sem.run_bind, Result.andThen]
end Go.Proofs.YthapmkbeolbmiaaGreatDoor
