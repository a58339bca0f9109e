/-
  What is proved here: what the iterator of bulks.pieces yields; what bulks.pieces returns.
  Conditions: what the slice's cells hold.
-/
import Derived.Test.YthapmkbeolbmiaaGreatDoorQRf
import Derived.Test.YthapmkbeolbmiaaGreatDoorQStart
namespace Go.Proofs.YthapmkbeolbmiaaGreatDoor
open Go.Proofs Go.RowKit Go.Shelf

attribute [local go_sem] Oper.semAt_some

theorem U8.skip {w : World} {a : Addr} {n c : Nat} {xs : List Int} (h : U8 w (some a) n c xs) {k : Nat} (hk : k ≤ n) : U8 w (some (a.add k)) (n - k) (c - k) (xs.drop k) := by
  obtain ⟨h1, h2, h3, ⟨h4, _⟩ | ⟨a', h4, h5⟩⟩ := h
  · cases h4
  · cases h4
    refine ⟨by simp [h1], fun x hx => h2 x (List.mem_of_mem_drop hx), by omega, .inr ⟨_, rfl, fun j hj => ?_⟩⟩
    rw [Addr.add_add]
    have := h5 (k + j) (by omega)
    simpa using this

/-- a piece: bytes that lie in a world's cells -/
def Piece (w : World) (v : Value) : Prop := ∃ A n c ys, v = .slice A n c ∧ U8 w A n c ys ∧ n ≤ 65536

/-- the three boxes of the closure -/
def Boxes (bx mx : Nat) (z : Bool) (W : World) : Prop :=
  W.heap[bx + 1]? = some (.cells #[.int .i64 (mx : Int)] 3 (0, 0)) ∧ W.heap[bx + 2]? = some (.cells #[.bool z] 4 (0, 0))
def Same3 (bx : Nat) (W W' : World) : Prop := ∀ i, i < 3 → W'.heap[bx + i]? = W.heap[bx + i]?

def boxLen (bx : Nat) (W : World) : Nat := match W.cell? ⟨bx, 0, none⟩ with | some (.slice _ m _) => m | _ => 0

theorem boxLen_of {bx m c : Nat} {A : Option Addr} {W : World} (h : W.heap[bx]? = some (.cells #[.slice A m c] 30 (0, 0))) : boxLen bx W = m := by
  unfold boxLen
  rw [cell_of h 0]
  rfl

set_option maxRecDepth 100000 in
set_option maxHeartbeats 4000000 in
theorem pieces_in (F : Fence) (n : Nat) (hF : F.fn 184) (hro : F.round = none) (hn : 1 ≤ n) (l bx mx n0 c0 : Nat) (A0 : Option Addr) (ys0 : List Int) (z : Bool) (w0 : World) (J : Nat → World → Prop) (hmx : 1 ≤ mx ∧ mx ≤ 1024) (hn0 : n0 ≤ 65536) (hU : U8 w0 A0 n0 c0 ys0)
    (hst : ∀ k W v, J k W → J k (W.setCell ⟨bx, 0, none⟩ v))
    (hY : ∀ k x W, k < n0 / mx + 2 → Piece w0 x → J k W → YieldAt F (n - 1) Tryz.prog l #[x] W fun e W' => e = .returned (.bool true) ∧ J (k + 1) W' ∧ Same3 bx W W')
    (W : World) (hb : W.heap[bx]? = some (.cells #[.slice A0 n0 c0] 30 (0, 0))) (hB : Boxes bx mx z W) (h0 : J 0 W) :
    CallsIn F n Tryz.prog 184 #[.func (.yield l) #[] #[], .pointer (some ⟨bx, 0, none⟩), .pointer (some ⟨bx + 1, 0, none⟩), .pointer (some ⟨bx + 2, 0, none⟩)] W fun e W' => (∃ v, e = .returned v) ∧ ∃ k, 1 ≤ k ∧ k ≤ n0 / mx + 2 ∧ J k W' := by
  refine callsIn_of_wp Tryz.func184 rfl hF ?_ hro
  simp only [Tryz.ntmps184, List.size_toArray, List.length_cons, List.length_nil, Nat.reduceAdd, Nat.reduceSub, Array.replicate_succ, Array.replicate_zero, List.push_toArray, List.append_toArray, List.nil_append, List.cons_append]
  have c0 := cell_of hb 0
  have c1 := cell_of hB.1 0
  have m0 : decide ((mx : Int) = 0) = false := by simp; omega
  gi_wp2
  all_goals
    try clear hn1
    gi_loopw [] (fun wr => ∃ (k : Nat) (A : Option Addr) (m c : Nat) (ys : List Int), k * mx + m = n0 ∧ U8 w0 A m c ys ∧ wr.heap[bx]? = some (.cells #[.slice A m c] 30 (0, 0)) ∧ Boxes bx mx z wr ∧ J k wr) (fun wr => boxLen bx wr)
    case atStart => exact ⟨0, A0, n0, _, ys0, by omega, hU, hb, hB, h0⟩
    case round =>
      obtain ⟨k, A, m, c, ys, hkm, hu, hbr, hBr, hJ⟩ := hrel
      have d0 := cell_of hbr 0
      have d1 := cell_of hBr.1 0
      have d2 := cell_of hBr.2 0
      have hkn : k ≤ n0 / mx := by rw [Nat.le_div_iff_mul_le (by omega)]; omega
      by_cases hlt : mx < m
      · have hn00 : 0 < n0 := by omega
        obtain ⟨a, rfl⟩ : ∃ a, A = some a := by
          rcases hu.2.2.2 with ⟨_, h, _⟩ | ⟨a, h, _⟩
          · omega
          · exact ⟨a, h⟩
        have hP : Piece w0 (.slice (some a) mx mx) := ⟨_, mx, mx, _, rfl, ⟨(hu.take (Nat.le_of_lt hlt)).1, fun x hx => hu.2.1 x (List.mem_of_mem_take hx), Nat.le_refl _, .inr ⟨a, rfl, (hu.take (Nat.le_of_lt hlt)).2.2.2.elim (fun h => by cases h.1) (fun ⟨a', e, h⟩ => by cases e; exact h)⟩⟩, by omega⟩
        obtain ⟨fn, tmps, assign, body, hy, hR⟩ := hY k _ wr (by omega) hP hJ
        have q1 : (mx : Int) < (m : Int) := by omega
        have q2 : mx ≤ c := by have := hu.2.2.1; omega
        gi_wp2
        refine hR.mono ?_
        rintro e W3 ⟨rfl, hJ3, hk3⟩
        have hb3 : W3.heap[bx]? = _ := (hk3 0 (by omega)).trans hbr
        have hB3 : Boxes bx mx z W3 := ⟨(hk3 1 (by omega)).trans hBr.1, (hk3 2 (by omega)).trans hBr.2⟩
        have g0 := cell_of hb3 0
        have f0 := frozen_of hb3 0
        have g1 := cell_of hB3.1 0
        have g2 := cell_of hB3.2 0
        have hk0 : bx < W3.heap.size := (Array.getElem?_eq_some_iff.1 hb3).1
        have hlen := boxLen_of hbr
        clear hY hR hy d0 d1 d2 hk3 hbr hBr
        gi_wp2
        have hcm : ¬ c = mx := by have := hu.2.2.1; omega
        first
        | (exfalso; omega)
        | (go_roundw
           case rel =>
             rw [if_neg hcm]
             exact ⟨k + 1, some (a.add mx), m - mx, c - mx, ys.drop mx, by rw [Nat.add_mul]; omega, hu.skip (Nat.le_of_lt hlt), setCell_heap hb3 0 _, ⟨(Below.heap_setCell W3 _ _ _ (by show bx + 1 ≠ bx; omega)).trans hB3.1, (Below.heap_setCell W3 _ _ _ (by show bx + 2 ≠ bx; omega)).trans hB3.2⟩, hst _ _ _ hJ3⟩
           case measure =>
             rw [boxLen_of (setCell_heap hb3 0 _), hlen]
             omega)
      · have hP : Piece w0 (.slice A m m) := ⟨_, m, m, _, rfl, ⟨hu.1, hu.2.1, Nat.le_refl _, hu.2.2.2.imp (fun h => ⟨h.1, h.2.1, h.2.1⟩) id⟩, by omega⟩
        have hP0 : Piece w0 (.slice none 0 0) := ⟨none, 0, 0, [], rfl, ⟨rfl, by simp, Nat.le_refl _, .inl ⟨rfl, rfl, rfl⟩⟩, by omega⟩
        obtain ⟨fn, tmps, assign, body, hy, hR⟩ := hY k _ wr (by omega) hP hJ
        have q1 : ¬ (mx : Int) < (m : Int) := by omega
        have q2 : m ≤ c := hu.2.2.1
        have hA : A = none ∧ m = 0 ∧ c = 0 ∨ ∃ a, A = some a := hu.2.2.2.imp id (fun ⟨a, h, _⟩ => ⟨a, h⟩)
        rcases hA with ⟨rfl, rfl, rfl⟩ | ⟨a, rfl⟩
        all_goals
          gi_wp2
          refine hR.mono ?_
          rintro e W3 ⟨rfl, hJ3, hk3⟩
          have hB3 : Boxes bx mx z W3 := ⟨(hk3 1 (by omega)).trans hBr.1, (hk3 2 (by omega)).trans hBr.2⟩
          have g2 := cell_of hB3.2 0
          obtain ⟨fn2, tmps2, assign2, body2, hy2, hR2⟩ := hY (k + 1) _ W3 (by omega) hP0 hJ3
          clear hY hR hy d0 d1 d2 hk3 hbr hBr
          cases z
          all_goals gi_wp2
          all_goals first
            | (go_end0; exact ⟨⟨_, rfl⟩, k + 1, by omega, by omega, hJ3⟩)
            | (refine hR2.mono ?_
               rintro e W4 ⟨rfl, hJ4, _⟩
               gi_wp2
               go_end0
               exact ⟨⟨_, rfl⟩, k + 1 + 1, by omega, by omega, hJ4⟩)
end Go.Proofs.YthapmkbeolbmiaaGreatDoor
