/-
  What is proved here: plugboardlaw41.SerialsCarry's argument, opened.
  Conditions: none.
-/
import Derived.Test.YthifcblajimppaaDActs
import Derived.ProofKit
import Derived.Deep.SlicePairs
namespace Go.Proofs.Ythifcblajimppaa
open Go.Sy Go.RowKit Go.ChangeShapes Go.WideShapes Go.ChangeAt
set_option maxRecDepth 1000000
theorem cells_u8 : Try.prog.cellsOf 5 = 1 := by kernel_rfl
theorem cells_act : Try.prog.cellsOf 35 = 3 := by kernel_rfl
theorem cells_u8s : Try.prog.cellsOf 33 = 1 := by kernel_rfl
theorem rng_u8 {n : Int} (h : (Lit.int .u8 n).wf = true) : 0 ≤ n ∧ n ≤ 255 := by
 have h1 : IntKind.u8.min = 0 := rfl
 have h2 : IntKind.u8.max = 255 := rfl
 simp only [Lit.wf, Bool.and_eq_true, decide_eq_true_eq] at h
 omega
theorem plain_of {w : World} {a : Addr} {v : Value} (h : w.cell? a = some v) : a = ⟨a.block, a.off, none⟩ := by
 have hs : a.spot = none := by
  unfold World.cell? at h
  split at h
  ·split at h
   ·simp at h
   ·rename_i hs; cases hsp : a.spot <;> simp_all
  ·simp at h
 cases a; simp at hs; simp [hs]
theorem add_at (b o j : Nat) : (⟨b, o, none⟩ : Addr).add j = ⟨b, o + j, none⟩ := by unfold Addr.add; split <;> simp_all
theorem add_zero' (a : Addr) : a.add 0 = a := by simp [Addr.add]
section
variable {H : Type} {enc : TypeId × Value → H} {W : World} {b : Nat} {sp : Nat → Bool} {held : Bool}
theorem bytes_open {fuel : Nat} {v : Value} {x : DataW H × List MemPlace} (h : DataW.trod enc Try.prog W b sp held fuel 33 [v] = some x) :
  ∃ A n c xs, v = .slice A n c ∧ U8 W A n c xs ∧ n ≤ 9223372036854775807 ∧ (n = 0 ∨ ∃ b o, A = some ⟨b, o, none⟩ ∧ b < W.heap.size) := by
 rcases open_ints (k := .u8) rfl rfl cells_u8 h with ⟨hcs, _⟩ | ⟨a, len', cap', zs, hcs, _, hl, hm, hz, _, hcell, hwz⟩
 ·simp at hcs
  subst hcs
  exact ⟨none, 0, 0, [], rfl, ⟨rfl, (fun x hx => nomatch hx), Nat.le_refl _, .inl ⟨rfl, rfl, rfl⟩⟩, by omega, .inl rfl⟩
 ·simp at hcs
  subst hcs
  have hzl : len' ≤ zs.length := by split at hz <;> omega
  unfold maxLen at hm
  refine ⟨some a, len', cap', zs.take len', rfl, ⟨by rw [List.length_take]; omega, fun x hx => rng_u8 (hwz x (List.mem_of_mem_take hx)), hl, .inr ⟨a, rfl, fun j hj => ?_⟩⟩, by omega, ?_⟩
  ·rw [List.getElem?_take, if_pos hj]
   exact hcell j (by omega)
  ·rcases Nat.eq_zero_or_pos len' with h0 | h0
   ·exact .inl h0
   ·have h1 := hcell 0 (by omega)
    rw [add_zero'] at h1
    exact .inr ⟨a.block, a.off, by rw [← plain_of h1], World.block_lt_of_cell? _ _ h1⟩
theorem acts_open {fuel : Nat} {v : Value} {x : DataW H × List MemPlace} (h : DataW.trod enc Try.prog W b sp held fuel 22 [v] = some x) :
  ∃ A n c, v = .slice A n c ∧ Acts W.heap.size W A n c := by
 rcases Go.Deep.open_slice Try.underlying22 h with ⟨hcs, _⟩ | ⟨a, len, cap, m, n, D, Pl, hcs, _, hl, hm, hmm, _, hx⟩
 ·simp at hcs
  subst hcs
  exact ⟨none, 0, 0, rfl, Nat.le_refl _, by omega, .inl rfl⟩
 simp at hcs
 subst hcs
 have hml : len ≤ m := by split at hmm <;> omega
 unfold maxLen at hm
 refine ⟨some a, len, cap, rfl, hl, by omega, ?_⟩
 rcases Nat.eq_zero_or_pos len with h0 | h0
 ·exact .inl h0
 right
 have each : ∀ i, i < m → ∃ v0 v1 v2 y0 y1 y2, W.cell? (a.add (i * 3)) = some v0 ∧ W.cell? (a.add (i * 3 + 1)) = some v1 ∧ W.cell? (a.add (i * 3 + 2)) = some v2 ∧
   DataW.trod enc Try.prog W b sp held (n - 1) 5 [v0] = some y0 ∧ DataW.trod enc Try.prog W b sp held (n - 1) 5 [v1] = some y1 ∧ DataW.trod enc Try.prog W b sp held (n - 1) 33 [v2] = some y2 := by
  intro i hi
  obtain ⟨cs', h1, h2⟩ := hx i hi
  rw [cells_act] at h1
  obtain ⟨_, hlen, hcell⟩ := World.cells?_some h1
  obtain ⟨xs, k, hk, hxy, _, hxl, hf⟩ := DataW.trod_struct Try.underlying35 h2
  have hk' : k = n - 1 := by omega
  subst hk'
  match xs, hxl, cs', hlen with
  | [y0, y1, y2], _, [v0, v1, v2], _ =>
   have g0 := hf 0 _ rfl
   have g1 := hf 1 _ rfl
   have g2 := hf 2 _ rfl
   simp [cells_u8, cells_u8s] at g0 g1 g2
   have e0 := hcell 0 (by omega)
   have e1 := hcell 1 (by omega)
   have e2 := hcell 2 (by omega)
   rw [Go.Deep.add_add] at e0 e1 e2
   exact ⟨v0, v1, v2, y0, y1, y2, by simpa using e0, by simpa using e1, by simpa using e2, g0, g1, g2⟩
 have hpl : a = ⟨a.block, a.off, none⟩ := by
  obtain ⟨v0, _, _, _, _, _, e0, _⟩ := each 0 (by omega)
  rw [Nat.zero_mul, add_zero'] at e0
  exact plain_of e0
 have hlt : a.block < W.heap.size := by
  obtain ⟨v0, _, _, _, _, _, e0, _⟩ := each 0 (by omega)
  rw [Nat.zero_mul, add_zero'] at e0
  exact World.block_lt_of_cell? _ _ e0
 refine ⟨a.block, a.off, by rw [← hpl], hlt, fun k hk => ?_⟩
 obtain ⟨v0, v1, v2, y0, y1, y2, e0, e1, e2, g0, g1, g2⟩ := each k (by omega)
 rw [hpl] at e0 e1 e2
 rw [add_at] at e0 e1 e2
 obtain ⟨z0, q0, _, r0⟩ := DataW.trod_int (k := .u8) Try.underlying5 g0
 obtain ⟨z1, q1, _, r1⟩ := DataW.trod_int (k := .u8) Try.underlying5 g1
 simp at q0 q1
 subst q0 q1
 obtain ⟨A, nb, c, xs, rfl, hu, hn, hp⟩ := bytes_open g2
 exact ⟨(z0, z1, xs), rng_u8 r0, rng_u8 r1, e0, e1, A, nb, c, e2, hu, hn, hp⟩
end
end Go.Proofs.Ythifcblajimppaa
