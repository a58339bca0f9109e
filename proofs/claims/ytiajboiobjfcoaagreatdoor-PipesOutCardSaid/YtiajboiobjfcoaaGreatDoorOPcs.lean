/-
  What is proved here: what the iterator of bulks.pieces yields; what bulks.pieces returns.
  Conditions: what the slice's cells hold.
-/
import Derived.Test.YtiajboiobjfcoaaGreatDoorORf
import Derived.Test.YtiajboiobjfcoaaGreatDoorOPlain
namespace Go.Proofs.YtiajboiobjfcoaaGreatDoor
open Go.Proofs Go.RowKit Go.Shelf
attribute [local go_sem] Oper.semAt_some
theorem U8.skip {w : World} {a : Addr} {n c : Nat} {xs : List Int} (h : U8 w (some a) n c xs) {k : Nat} (hk : k ≤ n) : U8 w (some (a.add k)) (n - k) (c - k) (xs.drop k) := by
 obtain ⟨h1, h2, h3, ⟨h4, _⟩ | ⟨a', h4, h5⟩⟩ := h
 ·cases h4
 ·cases h4
  refine ⟨by simp [h1], fun x hx => h2 x (List.mem_of_mem_drop hx), by omega, .inr ⟨_, rfl, fun j hj => ?_⟩⟩
  rw [Addr.add_add]
  have := h5 (k + j) (by omega)
  simpa using this
def PieceN (w : World) (L : List (List Int)) (k : Nat) (v : Value) : Prop := ∃ A n c ys, v = .slice A n c ∧ U8 w A n c ys ∧ n ≤ 65536 ∧ L[k]? = some ys
def Boxes (bx mx : Nat) (z : Bool) (W : World) : Prop :=
 W.heap[bx + 1]? = some (.cells #[.int .i64 (mx : Int)] 3 (0, 0)) ∧ W.heap[bx + 2]? = some (.cells #[.bool z] 4 (0, 0))
def Same3 (bx : Nat) (W W' : World) : Prop := ∀ i, i < 3 → W'.heap[bx + i]? = W.heap[bx + i]?
def boxLen (bx : Nat) (W : World) : Nat := match W.cell? ⟨bx, 0, none⟩ with | some (.slice _ m _) => m | _ => 0
theorem boxLen_of {bx m c : Nat} {A : Option Addr} {W : World} (h : W.heap[bx]? = some (.cells #[.slice A m c] 23 (0, 0))) : boxLen bx W = m := by
 unfold boxLen
 rw [cell_of h 0]
 rfl
set_option maxRecDepth 100000 in
set_option maxHeartbeats 4000000 in
theorem pieces_inN (F : Fence) (n : Nat) (hF : F.fn 86) (hro : F.round = none) (hn : 1 ≤ n) (l bx mx n0 c0 : Nat) (A0 : Option Addr) (ys0 : List Int) (z : Bool) (w0 : World) (J : Nat → World → Prop) (hmx : 1 ≤ mx ∧ mx ≤ 1024) (hn0 : n0 ≤ 65536) (hU : U8 w0 A0 n0 c0 ys0)
    (hst : ∀ k W v, J k W → J k (W.setCell ⟨bx, 0, none⟩ v))
    (hY : ∀ k x W, k < (cutL mx z ys0).length → PieceN w0 (cutL mx z ys0) k x → J k W → YieldAt F (n - 1) Tryz.prog l #[x] W fun e W' => e = .returned (.bool true) ∧ J (k + 1) W' ∧ Same3 bx W W')
    (W : World) (hb : W.heap[bx]? = some (.cells #[.slice A0 n0 c0] 23 (0, 0))) (hB : Boxes bx mx z W) (h0 : J 0 W) :
    CallsIn F n Tryz.prog 86 #[.func (.yield l) #[] #[], .pointer (some ⟨bx, 0, none⟩), .pointer (some ⟨bx + 1, 0, none⟩), .pointer (some ⟨bx + 2, 0, none⟩)] W fun e W' => (∃ v, e = .returned v) ∧ J (cutL mx z ys0).length W' := by
  refine callsIn_of_wp Tryz.func86 rfl hF ?_ hro
  simp only [Tryz.ntmps86, List.size_toArray, List.length_cons, List.length_nil, Nat.reduceAdd, Nat.reduceSub, Array.replicate_succ, Array.replicate_zero, List.push_toArray, List.append_toArray, List.nil_append, List.cons_append]
  have c0 := cell_of hb 0
  have c1 := cell_of hB.1 0
  have m0 : decide ((mx : Int) = 0) = false := by simp; omega
  have hyl := hU.1
  obtain ⟨t, ht⟩ : ∃ t, (z && decide (0 < ys0.length ∧ ys0.length % mx = 0)) = t := ⟨_, rfl⟩
  have hLL : cutL mx z ys0 = cutF mx t ys0.length ys0 := by unfold cutL; rw [ht]
  have hrest : ∀ (k m : Nat) (ys : List Int), k * mx + m = n0 → ys.length = m → (cutL mx z ys0).drop k = cutF mx t m ys → (mx < m → (cutL mx z ys0)[k]? = some (ys.take mx) ∧ (cutL mx z ys0).drop (k + 1) = cutF mx t (m - mx) (ys.drop mx)) ∧
      (¬ mx < m → (cutL mx z ys0)[k]? = some ys ∧ (t = true → (cutL mx z ys0)[k + 1]? = some [] ∧ (cutL mx z ys0).length = k + 2) ∧ (t = false → (cutL mx z ys0).length = k + 1)) := by
    intro k m ys h1 h2 h3
    have g0 : ∀ j, (cutL mx z ys0)[k + j]? = (cutF mx t m ys)[j]? := fun j => by rw [← h3, List.getElem?_drop]
    refine ⟨fun h => ?_, fun h => ?_⟩
    · have hs := cutF_step mx t m ys (by omega) (by omega)
      have e0 := g0 0
      rw [hs] at e0
      refine ⟨e0, ?_⟩
      have : (cutL mx z ys0).drop (k + 1) = ((cutL mx z ys0).drop k).drop 1 := by rw [List.drop_drop]
      rw [this, h3, hs]
      show cutF mx t (m - 1) (ys.drop mx) = _
      exact cutF_fuel mx hmx.1 t _ _ _ (by simp; omega) (by simp; omega)
    · have hs := cutF_last mx t m ys (by omega)
      have hl : (cutL mx z ys0).length - k = (cutF mx t m ys).length := by rw [← h3, List.length_drop]
      have e0 := g0 0
      have e1 := g0 1
      rw [hs] at e0 e1 hl
      refine ⟨?_, fun ht => ?_, fun ht => ?_⟩
      · rw [Nat.add_zero] at e0
        rw [e0]
        split <;> rfl
      · rw [ht] at e1 hl
        exact ⟨e1, by simp at hl; omega⟩
      · rw [ht] at hl
        simp at hl; omega
  have HR := Lib.hid hrest
  clear hrest
  have HT := Lib.hid ht
  clear ht
  have HLL := Lib.hid hLL
  clear hLL
  obtain ⟨fl, hf1, hf0, hf2⟩ : ∃ fl : Bool, (0 < n0 → ((n0 : Int) % (mx : Int) == 0) = fl) ∧ (¬ 0 < n0 → fl = false) ∧ (z && fl) = t := by
    by_cases h : 0 < n0
    · refine ⟨_, fun _ => rfl, fun h' => absurd h h', ?_⟩
      rw [← HT.out, hyl]
      congr 1
      rw [Bool.eq_iff_iff]
      simp [h]
      omega
    · refine ⟨false, fun h' => absurd h' h, fun _ => rfl, ?_⟩
      rw [← HT.out, hyl]
      simp [h]
  have HF2 := Lib.hid hf2
  have HF1 := Lib.hid hf1
  have HF0 := Lib.hid hf0
  clear hf1 hf2 hf0
  by_cases hn00 : 0 < n0
  all_goals
    gi_wp2
    try rw [HF1.out hn00]
    gi_loopw [] (fun wr => ∃ (k : Nat) (A : Option Addr) (m c : Nat) (ys : List Int), k * mx + m = n0 ∧ (cutL mx z ys0).drop k = cutF mx t m ys ∧ U8 w0 A m c ys ∧ wr.heap[bx]? = some (.cells #[.slice A m c] 23 (0, 0)) ∧ Boxes bx mx z wr ∧ J k wr) (fun wr => boxLen bx wr)
    case atStart => exact ⟨0, A0, n0, _, ys0, by omega, by rw [← hyl]; exact HLL.out, hU, hb, hB, h0⟩
    case round =>
      obtain ⟨k, A, m, c, ys, hkm, hdr, hu, hbr, hBr, hJ⟩ := hrel
      obtain ⟨hra, hrb⟩ := HR.out k m ys hkm hu.1 hdr
      have HRA := Lib.hid hra
      have HRB := Lib.hid hrb
      clear hra hrb hdr
      have d0 := cell_of hbr 0
      have d1 := cell_of hBr.1 0
      have d2 := cell_of hBr.2 0
      by_cases hlt : mx < m
      · obtain ⟨a, rfl⟩ : ∃ a, A = some a := by
          rcases hu.2.2.2 with ⟨_, h, _⟩ | ⟨a, h, _⟩
          · omega
          · exact ⟨a, h⟩
        have hP : PieceN w0 (cutL mx z ys0) k (.slice (some a) mx mx) := ⟨_, mx, mx, ys.take mx, rfl, ⟨(hu.take (Nat.le_of_lt hlt)).1, fun x hx => hu.2.1 x (List.mem_of_mem_take hx), Nat.le_refl _, .inr ⟨a, rfl, (hu.take (Nat.le_of_lt hlt)).2.2.2.elim (fun h => by cases h.1) (fun ⟨a', e, h⟩ => by cases e; exact h)⟩⟩, by omega, (HRA.out hlt).1⟩
        obtain ⟨fn, tmps, assign, body, hy, hR⟩ := hY k _ wr (List.getElem?_eq_some_iff.1 (HRA.out hlt).1).1 hP hJ
        have q1 : (mx : Int) < (m : Int) := by omega
        have q2 : mx ≤ c := by have := hu.2.2.1; omega
        gi_wp2
        refine hR.mono ?_
        rintro e W3 ⟨rfl, hJ3, hk3⟩
        have hb3 : W3.heap[bx]? = _ := (hk3 0 (by omega)).trans hbr
        have hB3 : Boxes bx mx z W3 := ⟨(hk3 1 (by omega)).trans hBr.1, (hk3 2 (by omega)).trans hBr.2⟩
        have g0 := cell_of hb3 0
        have f0 := frozen_of hb3 0
        have g1 := cell_of hB3.1 0
        have g2 := cell_of hB3.2 0
        have hk0 : bx < W3.heap.size := (Array.getElem?_eq_some_iff.1 hb3).1
        have hlen := boxLen_of hbr
        clear hY hR hy d0 d1 d2 hk3 hbr hBr
        gi_wp2
        have hcm : ¬ c = mx := by have := hu.2.2.1; omega
        first
        | (exfalso; omega)
        | (go_roundw
           case rel =>
             rw [if_neg hcm]
             exact ⟨k + 1, some (a.add mx), m - mx, c - mx, ys.drop mx, by rw [Nat.add_mul]; omega, (HRA.out hlt).2, hu.skip (Nat.le_of_lt hlt), setCell_heap hb3 0 _, ⟨(Below.heap_setCell W3 _ _ _ (by show bx + 1 ≠ bx; omega)).trans hB3.1, (Below.heap_setCell W3 _ _ _ (by show bx + 2 ≠ bx; omega)).trans hB3.2⟩, hst _ _ _ hJ3⟩
           case measure =>
             rw [boxLen_of (setCell_heap hb3 0 _), hlen]
             omega)
      · have hP : PieceN w0 (cutL mx z ys0) k (.slice A m m) := ⟨_, m, m, ys, rfl, ⟨hu.1, hu.2.1, Nat.le_refl _, hu.2.2.2.imp (fun h => ⟨h.1, h.2.1, h.2.1⟩) id⟩, by omega, (HRB.out hlt).1⟩
        have hkl : k < (cutL mx z ys0).length := (List.getElem?_eq_some_iff.1 (HRB.out hlt).1).1
        have hP0 : t = true → PieceN w0 (cutL mx z ys0) (k + 1) (.slice none 0 0) := fun ht => ⟨none, 0, 0, [], rfl, ⟨rfl, by simp, Nat.le_refl _, .inl ⟨rfl, rfl, rfl⟩⟩, by omega, ((HRB.out hlt).2.1 ht).1⟩
        have HP0 := Lib.hid hP0
        clear hP0
        obtain ⟨fn, tmps, assign, body, hy, hR⟩ := hY k _ wr hkl hP hJ
        have q1 : ¬ (mx : Int) < (m : Int) := by omega
        have q2 : m ≤ c := hu.2.2.1
        have hA : A = none ∧ m = 0 ∧ c = 0 ∨ ∃ a, A = some a := hu.2.2.2.imp id (fun ⟨a, h, _⟩ => ⟨a, h⟩)
        rcases hA with ⟨rfl, rfl, rfl⟩ | ⟨a, rfl⟩
        all_goals
          gi_wp2
          refine hR.mono ?_
          rintro e W3 ⟨rfl, hJ3, hk3⟩
          have hB3 : Boxes bx mx z W3 := ⟨(hk3 1 (by omega)).trans hBr.1, (hk3 2 (by omega)).trans hBr.2⟩
          have g2 := cell_of hB3.2 0
          have HY := Lib.hid hY
          clear hY hR hy d0 d1 d2 hk3 hbr hBr
          rcases Bool.eq_false_or_eq_true t with ht | ht
          · have hzf : z = true ∧ fl = true := by have := HF2.out; rw [ht] at this; simpa using this
            obtain ⟨rfl, rfl⟩ := hzf
            first
            | (exfalso
               have := HF0.out hn00
               cases this
               done)
            | (obtain ⟨fn2, tmps2, assign2, body2, hy2, hR2⟩ := HY.out (k + 1) _ W3 (List.getElem?_eq_some_iff.1 ((HRB.out hlt).2.1 ht).1).1 (HP0.out ht) hJ3
               gi_wp2
               refine hR2.mono ?_
               rintro e W4 ⟨rfl, hJ4, _⟩
               gi_wp2
               go_end0
               refine ⟨⟨_, rfl⟩, ?_⟩
               rw [((HRB.out hlt).2.1 ht).2]
               exact hJ4)
          · have hzf : z = false ∨ fl = false := Bool.and_eq_false_iff.1 (HF2.out.trans ht)
            cases z
            all_goals cases fl
            all_goals first
            | (exfalso
               rcases hzf with h | h
               all_goals cases h
               done)
            | (gi_wp2
               go_end0
               refine ⟨⟨_, rfl⟩, ?_⟩
               rw [(HRB.out hlt).2.2 ht]
               exact hJ3)
end Go.Proofs.YtiajboiobjfcoaaGreatDoor
