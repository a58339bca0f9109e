/-
  What is proved here: plugboardlaw23.PipesBegin returns true.
  Conditions: what the slices' cells hold; lives returns true.
-/
import Derived.Test.YthapmkbeolbmiaaGreatDoorQClr
namespace Go.Proofs.YthapmkbeolbmiaaGreatDoor
open Go.Proofs Go.RowKit

attribute [local go_sem] lt2 lt3 lt4 lt5

/-- the loop over the packets' lengths -/
def Short (bs : List (List Int)) (k : Nat) : Prop := ∀ (j : Nat) b, j < k → bs[j]? = some b → b.length ≤ 100

theorem wpList_append_run {P : Program} {ops : Array Oper} {rest : List Oper} {o : Oper} {a : Act} {Q : Exit → Act → World → Prop} {w : World} (hg : o.guard = none) (s x : Operand) (t : TypeId) (hop : o.op = Op.call { callee := Callee.builtin Builtin.append, args := #[s, x], argTypes := #[t, t] })
    (sv xv v' : Value) (w' : World) (hs : a.eval s = sv) (hx : a.eval x = xv) (hrun : (Builtin.append_ #[t, t] o.type #[sv, xv]).run P w = .ok v' w') (hK : wpList P ops Q rest (a.put o.dst v') w') : wpList P ops Q (o :: rest) a w := by
  refine wpList_plain hg fun K hK' => ?_
  unfold Oper.wp
  simp [execOp, hop, resolve, invoke, builtin, hs, hx, hrun, Result.andThen]
  exact hK' _ _ hK

theorem b8s_app {w : World} {vs us : List Value} {bs cs : List (List Int)} (h : B8s w vs bs) (h' : B8s w us cs) : B8s w (vs ++ us) (bs ++ cs) := by
  refine ⟨by simp [h.1, h'.1], fun j v b h1 h2 => ?_⟩
  by_cases hj : j < vs.length
  · rw [List.getElem?_append_left hj] at h1
    rw [List.getElem?_append_left (by rw [← h.1]; exact hj)] at h2
    exact h.2 j v b h1 h2
  · rw [List.getElem?_append_right (by omega)] at h1
    rw [List.getElem?_append_right (by rw [← h.1]; omega), ← h.1] at h2
    exact h'.2 _ v b h1 h2

theorem add_block (a : Addr) (j : Nat) : (a.add j).block = a.block := by unfold Addr.add; split <;> rfl
theorem Sls.wrote {w w' : World} {A : Option Addr} {n c g : Nat} {vs : List Value} (h : Sls w A n c vs) (hw : Wrote g w w') (hf : n = 0 ∨ ∃ a, A = some a ∧ a.block ≠ g) : Sls w' A n c vs := by
  obtain ⟨h1, h2, h3⟩ := h
  refine ⟨h1, h2, h3.imp id ?_⟩
  rintro ⟨a, rfl, h4⟩
  refine ⟨a, rfl, fun j v hj => ?_⟩
  rcases hf with h0 | ⟨a', e, hne⟩
  · have := (List.getElem?_eq_some_iff.1 hj).1; omega
  · cases e
    exact (hw.cell (by rw [add_block]; exact hne)).trans (h4 j v hj)

/-- the loop that makes more packets -/
def JInv (w : World) (pcs : Array Value) (t c v i l : Int) (D : Value) (len : Int) (z : Bool) (m : Int) (pn kk : Nat) (wr : World) : Prop :=
  ∃ A' n' c' vs' bs', n' ≤ pn * (kk + 1) ∧ wr.heap[w.heap.size]? = some (.cells pcs 73 (0, 0)) ∧ wr.heap[w.heap.size + 1]? = some (.cells #[.int .u8 t, .int .u8 c, .int .u16 v, .int .u16 i, .int .u16 l, D, .int .i64 len, .bool z, .slice A' n' c', .int .i64 m] 75 (0, 0)) ∧
    Sls wr A' n' c' vs' ∧ B8s w vs' bs' ∧ Below w.heap.size w wr ∧ SlZ (.slice A' n' c') n' A'.isNone ∧ (n' = 0 ∨ ∃ a, A' = some a ∧ a.block ≠ w.heap.size + 1)

set_option maxHeartbeats 1000000 in
set_option maxRecDepth 1000000 in
/-- where a packet is longer than that the examples alone are asked -/
theorem law_long (ad en : Int) (inn : Bool) (k0 mx per sp hu po : Int) (tg ha : Bool) (t c v i l : Int) (dA : Option Addr) (dn dc : Nat) (len : Int) (z : Bool) (pA : Option Addr) (pn pc : Nat) (m : Int) (mn : Int) (vs : List Value) (w : World)
    (hA : Sls w pA pn pc vs) (hs : ∀ (j : Nat) x, vs[j]? = some x → ∃ A n c, x = .slice A n c) (kl : Nat) (hkl : ∃ A n c, vs[kl]? = some (.slice A n c) ∧ 100 < n)
    (hl : ∀ w', Below w.heap.size w w' → Calls Tryz.prog 20 #[] w' (Go.Sy.LawEnd w')) :
    Calls Tryz.prog 4 #[.agg #[.int .u8 ad, .int .u8 en, .bool inn, .int .u8 k0, .int .i64 mx, .int .i64 per, .int .u8 sp, .int .u8 hu, .int .u8 po, .bool tg, .bool ha],
      .agg #[.int .u8 t, .int .u8 c, .int .u16 v, .int .u16 i, .int .u16 l, .slice dA dn dc, .int .i64 len, .bool z, .slice pA pn pc, .int .i64 m], .int .u8 mn] w (Go.Sy.LawEnd w) := by
  have hb2 : ∀ a b, Below w.heap.size w ((w.alloc a).alloc b) := fun a b => ((Below.refl w.heap.size w).alloc (Nat.le_refl _) a).alloc (by simp) b
  have hl2 := fun a b => hl _ (hb2 a b)
  have hkn : kl < pn := by
    obtain ⟨_, _, _, h, _⟩ := hkl
    rw [← hA.1]
    exact (List.getElem?_eq_some_iff.1 h).1
  have hcells : ∀ k, k < pn → ∃ a A n c, pA = some a ∧ vs[k]? = some (.slice A n c) ∧ w.cell? (a.add k) = some (.slice A n c) := by
    intro k hk
    obtain ⟨h1, h2, ⟨_, h3, _⟩ | ⟨a, rfl, h3⟩⟩ := hA
    · omega
    · have hv : k < vs.length := by omega
      obtain ⟨A, n, c, e⟩ := hs k _ (List.getElem?_eq_getElem hv)
      have := h3 k _ (List.getElem?_eq_getElem hv)
      exact ⟨a, A, n, c, rfl, by rw [← e]; exact List.getElem?_eq_getElem hv, by rw [← e]; exact this⟩
  have HK := Lib.hid hkl
  clear hkl hA hs
  go_enter Tryz.func4, Tryz.ntmps4
  by_cases q1 : (100 : Int) < (dn : Int)
  · go_wp2_with fail
    refine (hl2 _ _).mono ?_
    rintro e w' ⟨rfl, hbl⟩
    go_wp2_with fail
    go_ret
    exact ⟨rfl, (hb2 _ _).trans (hbl.mono (hb2 _ _).size)⟩
  by_cases q2 : (10 : Int) < (pn : Int)
  · go_wp2_with fail
    refine (hl2 _ _).mono ?_
    rintro e w' ⟨rfl, hbl⟩
    go_wp2_with fail
    go_ret
    exact ⟨rfl, (hb2 _ _).trans (hbl.mono (hb2 _ _).size)⟩
  go_upto_region 5 with fail
  go_loop [8] (fun i => ∃ k : Nat, k ≤ kl ∧ i = .int .i64 k) (fun i => pn - (intOf i).toNat)
  case atStart => exact ⟨0, by omega, rfl⟩
  case round =>
    obtain ⟨k, h1, rfl⟩ := hrel
    obtain ⟨a, Ak, nk, ck, rfl, eb, hck⟩ := hcells k (by omega)
    have EX := Lib.hid eb
    clear eb
    have q3 : (k : Int) < (pn : Int) := by omega
    have hck2 : ∀ o1 o2 : Obj, ((w.alloc o1).alloc o2).cell? (a.add k) = some (.slice Ak nk ck) := fun o1 o2 => ((hb2 o1 o2).cell (World.block_lt_of_cell? _ _ hck)).trans hck
    clear hck
    by_cases q4 : (100 : Int) < (nk : Int)
    · go_wp2_with fail
      refine (hl2 _ _).mono ?_
      rintro e w' ⟨rfl, hbl⟩
      go_wp2_with fail
      go_ret
      exact ⟨rfl, (hb2 _ _).trans (hbl.mono (hb2 _ _).size)⟩
    · have hne : k ≠ kl := by
        rintro rfl
        obtain ⟨A, n, c, h, hn⟩ := HK.out
        rw [EX.out] at h
        cases h
        omega
      go_wp2_with fail
      go_round
      case rel => exact ⟨k + 1, by omega, by simp⟩
      case measure => simp [intOf]; omega

set_option maxHeartbeats 4000000 in
set_option maxRecDepth 1000000 in
theorem law_walk (ad en : Int) (inn : Bool) (k0 mx per sp hu po : Int) (tg ha : Bool) (t c v i l : Int) (dA : Option Addr) (dn dc : Nat) (len : Int) (z : Bool) (pA : Option Addr) (pn pc : Nat) (m : Int) (mn : Nat) (vs : List Value) (bs : List (List Int)) (w : World)
    (hA : Sls w pA pn pc vs) (hb : B8s w vs bs) (hmn : mn ≤ 255) (hP : SlZ (.slice pA pn pc) pn pA.isNone) (ok : Bool)
    (hc : Ret 21 #[.agg #[.int .u8 ad, .int .u8 en, .bool inn, .int .u8 k0, .int .i64 mx, .int .i64 per, .int .u8 sp, .int .u8 hu, .int .u8 po, .bool tg, .bool ha]] (.int .i64 (if ok then 0 else 1)))
    (hv : Ret 22 #[.agg #[.int .u8 ad, .int .u8 en, .bool inn, .int .u8 k0, .int .i64 mx, .int .i64 per, .int .u8 sp, .int .u8 hu, .int .u8 po, .bool tg, .bool ha]] (.bool ok))
    (hall : ∀ A' n' c' vs' bs' wr, Below w.heap.size w wr → dn ≤ 100 → n' ≤ 10 * 256 → Sls wr A' n' c' vs' → B8s w vs' bs' → SlZ (.slice A' n' c') n' A'.isNone → ∃ wt, AllIs ad en wt (.agg #[.int .u8 ad, .int .u8 en, .bool inn, .int .u8 k0, .int .i64 mx, .int .i64 per, .int .u8 sp, .int .u8 hu, .int .u8 po, .bool tg, .bool ha]) (.agg #[.int .u8 t, .int .u8 c, .int .u16 v, .int .u16 i, .int .u16 l, .slice dA dn dc, .int .i64 len, .bool z, .slice A' n' c', .int .i64 m]) wr)
    (hl : ∀ w', Below w.heap.size w w' → Calls Tryz.prog 20 #[] w' (Go.Sy.LawEnd w')) :
    Calls Tryz.prog 4 #[.agg #[.int .u8 ad, .int .u8 en, .bool inn, .int .u8 k0, .int .i64 mx, .int .i64 per, .int .u8 sp, .int .u8 hu, .int .u8 po, .bool tg, .bool ha],
      .agg #[.int .u8 t, .int .u8 c, .int .u16 v, .int .u16 i, .int .u16 l, .slice dA dn dc, .int .i64 len, .bool z, .slice pA pn pc, .int .i64 m], .int .u8 (mn : Int)] w (Go.Sy.LawEnd w) := by
  have hb2 : ∀ a b, Below w.heap.size w ((w.alloc a).alloc b) := fun a b => ((Below.refl w.heap.size w).alloc (Nat.le_refl _) a).alloc (by simp) b
  have hl2 := fun a b => hl _ (hb2 a b)
  go_enter Tryz.func4, Tryz.ntmps4
  by_cases q1 : (100 : Int) < (dn : Int)
  · go_wp2_with fail
    refine (hl2 _ _).mono ?_
    rintro e w' ⟨rfl, hbl⟩
    go_wp2_with fail
    go_ret
    exact ⟨rfl, (hb2 _ _).trans (hbl.mono (hb2 _ _).size)⟩
  by_cases q2 : (10 : Int) < (pn : Int)
  · go_wp2_with fail
    refine (hl2 _ _).mono ?_
    rintro e w' ⟨rfl, hbl⟩
    go_wp2_with fail
    go_ret
    exact ⟨rfl, (hb2 _ _).trans (hbl.mono (hb2 _ _).size)⟩
  go_upto_region 5 with fail
  go_loop [8] (fun i => ∃ k : Nat, k ≤ pn ∧ i = .int .i64 k ∧ Hid (Short bs k)) (fun i => pn - (intOf i).toNat)
  case atStart => exact ⟨0, by omega, rfl, Lib.hid fun j x h => by omega⟩
  case round =>
    obtain ⟨k, h1, rfl, HE⟩ := hrel
    by_cases hk : k < pn
    · obtain ⟨a, Ak, nk, ck, b, rfl, eb, hck, huk, hnk, hnc⟩ := hA.elem hb hk
      have EX := Lib.hid eb
      have HL := Lib.hid huk.1
      clear eb huk
      have q3 : (k : Int) < (pn : Int) := by omega
      have hck2 : ∀ o1 o2 : Obj, ((w.alloc o1).alloc o2).cell? (a.add k) = some (.slice Ak nk ck) := fun o1 o2 => ((hb2 o1 o2).cell (World.block_lt_of_cell? _ _ hck)).trans hck
      clear hck
      by_cases q4 : (100 : Int) < (nk : Int)
      · go_wp2_with fail
        refine (hl2 _ _).mono ?_
        rintro e w' ⟨rfl, hbl⟩
        go_wp2_with fail
        go_ret
        exact ⟨rfl, (hb2 _ _).trans (hbl.mono (hb2 _ _).size)⟩
      · go_wp2_with fail
        go_round
        case rel =>
          refine ⟨k + 1, by omega, by simp, Lib.hid fun j x hj hx => ?_⟩
          by_cases hjk : j < k
          · exact HE.out j x hjk hx
          · obtain rfl : j = k := by omega
            rw [EX.out] at hx
            cases hx
            rw [HL.out]
            omega
        case measure => simp [intOf]; omega
    · obtain rfl : pn = k := by omega
      have q3 : ¬ (pn : Int) < (pn : Int) := by omega
      go_upto_region 10 with fail
      clear hk h1 HE hl2
      go_loopw [9] (fun ix wr => ∃ kk : Nat, kk ≤ mn ∧ ix = .int .i64 kk ∧ JInv w #[.int .u8 ad, .int .u8 en, .bool inn, .int .u8 k0, .int .i64 mx, .int .i64 per, .int .u8 sp, .int .u8 hu, .int .u8 po, .bool tg, .bool ha] t c v i l (.slice dA dn dc) len z m pn kk wr) (fun ix _ => mn - (intOf ix).toNat)
      case atStart => exact ⟨0, by omega, rfl, pA, pn, pc, vs, bs, by omega, alloc2_0 w _ _, alloc2_1 w _ _, hA.below (hb2 _ _), hb, hb2 _ _, hP, by
        rcases Nat.eq_zero_or_pos pn with hp0 | hp0
        · exact .inl hp0
        · obtain ⟨a, e, hc⟩ := hA.cells hp0
          have h0 := hc 0 (vs[0]'(by rw [hA.1]; exact hp0)) (List.getElem?_eq_getElem _)
          have := World.block_lt_of_cell? _ _ h0
          rw [add_block] at this
          exact .inr ⟨a, e, by omega⟩⟩
      case round =>
        obtain ⟨kk, h1, rfl, A', n', c', vs', bs', hn', hX0, hX1, hA', hb', hbw, hP', hfar⟩ := hrel
        by_cases hk : kk < mn
        · have q5 : (kk : Int) < (mn : Int) := by omega
          have y8 := cell_of hX1 8
          have hA0 := hA.below hbw
          have hmul : pn * (kk + 1) ≤ 10 * 256 := Nat.mul_le_mul (by omega) (by omega)
          have hmul2 : pn * (kk + 1 + 1) = pn * (kk + 1) + pn := Nat.mul_succ _ _
          have hAf : Sls wr A' n' n' vs' := ⟨hA'.1, Nat.le_refl _, hA'.2.2.imp (fun h => ⟨h.1, h.2.1, h.2.1⟩) id⟩
          have hnc := hA'.2.1
          have hA3 : (A' = none ∧ n' = 0 ∧ c' = 0) ∨ ∃ a, A' = some a := hA'.2.2.imp id fun ⟨a, h, _⟩ => ⟨a, h⟩
          obtain ⟨A2, n2, c2, vs2, bs2, w2, hrun, hn2, hA2, hb2', hbw2, hP2, hfar2⟩ : ∃ A2 n2 c2 vs2 bs2 w2, (Builtin.append_ #[53, 53] 53 #[.slice A' n' n', .slice pA pn pc]).run Tryz.prog wr = .ok (.slice A2 n2 c2) w2 ∧ n2 ≤ pn * (kk + 1 + 1) ∧ Sls w2 A2 n2 c2 vs2 ∧ B8s w vs2 bs2 ∧ Below wr.heap.size wr w2 ∧ SlZ (.slice A2 n2 c2) n2 A2.isNone ∧ (n2 = 0 ∨ ∃ a, A2 = some a ∧ a.block ≠ w.heap.size + 1) := by
            rcases Nat.eq_zero_or_pos pn with hp0 | hp0
            · subst hp0
              refine ⟨A', n', n', vs', bs', wr, zero_app wr A' pA pc n', by omega, hAf, hb', Below.refl _ _, ?_, hfar⟩
              have : SlZ (.slice A' n' n') n' A'.isNone := by
                refine ⟨by have := hP'.1; exact this, n', ?_⟩
                rcases hP'.2 with ⟨cap, ⟨h0, b, o, e⟩ | ⟨h0, a, e, hz⟩⟩
                · refine .inl ⟨h0, b, o, ?_⟩
                  injection e with e1 e2 e3
                  rw [e1]
                · subst h0
                  exact .inr ⟨rfl, A', rfl, rfl⟩
              exact this
            · obtain ⟨cap, w2, hr, hs2, hbl2, _⟩ := grown_sls hAf hA0 hp0 (by omega)
              refine ⟨_, _, cap, vs' ++ vs, bs' ++ bs, w2, hr, by omega, hs2, b8s_app hb' hb, hbl2, ⟨by omega, cap, .inl ⟨by omega, _, _, rfl⟩⟩, .inr ⟨_, rfl, by have := (Array.getElem?_eq_some_iff.1 hX1).1; show wr.heap.size ≠ _; omega⟩⟩
          have hrun' := Lib.hid hrun
          clear hrun
          have hX02 := heap_below hX0 hbw2
          have hX12 := heap_below hX1 hbw2
          have f8 := frozen_of hX12 8
          have z8 := cell_of hX12 8
          have hS := setCell_heap hX12 8 (.slice A2 n2 c2)
          have hS1 := (Wrote.refl (w.heap.size + 1) w2).setCell 8 (.slice A2 n2 c2)
          have hS0 := (hS1.other w.heap.size (by omega)).trans hX02
          have hfin : JInv w #[.int .u8 ad, .int .u8 en, .bool inn, .int .u8 k0, .int .i64 mx, .int .i64 per, .int .u8 sp, .int .u8 hu, .int .u8 po, .bool tg, .bool ha] t c v i l (.slice dA dn dc) len z m pn (kk + 1) (w2.setCell ⟨w.heap.size + 1, 8, none⟩ (.slice A2 n2 c2)) :=
            ⟨A2, n2, c2, vs2, bs2, hn2, hS0, hS, hA2.wrote hS1 hfar2, hb2', (hbw.trans (hbw2.mono hbw.size)).trans (hS1.below (by omega)), hP2, hfar2⟩
          clear hX0 hX1 hA' hb' hP' hAf hA0 hX02 hS hS1 hS0 hA2 hb2' hP2
          rcases hA3 with ⟨rfl, rfl, rfl⟩ | ⟨a, rfl⟩
          all_goals
            go_wp2_with (at_builtin; refine wpList_append_run rfl (.tmp 56) (.tmp 57) 53 rfl _ _ _ _ rfl rfl hrun'.out ?_)
            go_roundw
            case rel => exact ⟨kk + 1, by omega, by simp, hfin⟩
            case measure => simp [intOf]; omega
        · obtain rfl : mn = kk := by omega
          have q5 : ¬ (mn : Int) < (mn : Int) := by omega
          go_upto_region 13 with fail
          go_cut [65] from 60 to 65 (fun s wx => s = .bool false ∧ Below wr.heap.size wr wx)
          case first =>
            have lay : ∀ wx, Below wr.heap.size wr wx → ∀ j, wx.cell? ⟨w.heap.size, j, none⟩ = (#[.int .u8 ad, .int .u8 en, .bool inn, .int .u8 k0, .int .i64 mx, .int .i64 per, .int .u8 sp, .int .u8 hu, .int .u8 po, .bool tg, .bool ha] : Array Value)[j]? := fun wx h j => cell_of (heap_below hX0 h) j
            have hp := cell_of hX0
            have p0 := hp 0
            have p1 := hp 1
            have p2 := hp 2
            have p3 := hp 3
            have p4 := hp 4
            have p5 := hp 5
            have p6 := hp 6
            have p7 := hp 7
            have p8 := hp 8
            have p9 := hp 9
            have p10 := hp 10
            clear hp
            cases ok
            all_goals
              simp only [if_true, if_false, Bool.false_eq_true] at hc
              go_region_with (first
                | (go_at_call 21; refine (hc _).mono ?_; rintro e w4 ⟨rfl, hb4⟩; have hq4 : Below wr.heap.size wr w4 := (by first | exact below_undrew hb4 | exact hq5.trans (hb4.mono hq5.size)); have l0 := lay _ hq4 0; have l1 := lay _ hq4 1; have l2 := lay _ hq4 2; have l3 := lay _ hq4 3; have l4 := lay _ hq4 4; have l5 := lay _ hq4 5; have l6 := lay _ hq4 6; have l7 := lay _ hq4 7; have l8 := lay _ hq4 8; have l9 := lay _ hq4 9; have l10 := lay _ hq4 10)
                | (go_at_call 22; refine (hv _).mono ?_; rintro e w5 ⟨rfl, hb5⟩; have hq5 : Below wr.heap.size wr w5 := (by first | exact below_undrew hb5 | exact hq4.trans (hb5.mono hq4.size)); have l0 := lay _ hq5 0; have l1 := lay _ hq5 1; have l2 := lay _ hq5 2; have l3 := lay _ hq5 3; have l4 := lay _ hq5 4; have l5 := lay _ hq5 5; have l6 := lay _ hq5 6; have l7 := lay _ hq5 7; have l8 := lay _ hq5 8; have l9 := lay _ hq5 9; have l10 := lay _ hq5 10))
              all_goals
                go_wp2_with fail
                go_meet
                refine ⟨rfl, ?_⟩
                first
                  | exact hq4.trans (hb5.mono hq4.size)
                  | exact hq5.trans (hb4.mono hq5.size)
          case rest =>
            obtain ⟨rfl, hbx⟩ := hcut
            replace hX0 := heap_below hX0 hbx
            replace hX1 := heap_below hX1 hbx
            replace hA' := hA'.below hbx
            replace hbw := hbw.trans (hbx.mono hbw.size)
            clear hbx hb2 hA q3 q5 h1 hk
            have hclr := clear_ret ad en inn k0 mx per sp hu po tg ha
            unfold pipeV at hclr
            go_upto_region 15 with fail
            go_wp2_with (guard_target =~ wpList _ _ _ (_ :: _) _ _; refine wpList_load_row rfl (.tmp 3) 73 rfl w.heap.size 73 _ _ rfl hX0 Tryz.underlying73 rfl (by kernel_rfl) ?_)
            refine (hclr _).mono ?_
            rintro e w4 ⟨rfl, hb4⟩
            replace hX0 := heap_below hX0 hb4
            replace hX1 := heap_below hX1 hb4
            replace hA' := hA'.below hb4
            replace hbw := hbw.trans (hb4.mono hbw.size)
            clear hb4 hclr
            have hXa := fun o => heap_below hX0 ((Below.refl w4.heap.size w4).alloc (Nat.le_refl _) o)
            have p0 := fun o => cell_of (hXa o) 0
            have p1 := fun o => cell_of (hXa o) 1
            have p2 := fun o => cell_of (hXa o) 2
            have p3 := fun o => cell_of (hXa o) 3
            have p4 := fun o => cell_of (hXa o) 4
            have p5 := fun o => cell_of (hXa o) 5
            have p6 := fun o => cell_of (hXa o) 6
            have p7 := fun o => cell_of (hXa o) 7
            have p8 := fun o => cell_of (hXa o) 8
            have p9 := fun o => cell_of (hXa o) 9
            have p10 := fun o => cell_of (hXa o) 10
            go_upto_region 20 with fail
            go_upto_region 22 with fail
            clear p0 p1 p2 p3 p4 p5 p6 p7 p8 p9 p10 hXa
            obtain ⟨w5, hw5⟩ : ∃ w5, w4.alloc (.cells #[.int .u8 ad, .int .u8 en, .bool inn, .int .u8 k0, .int .i64 mx, .int .i64 per, .int .u8 sp, .int .u8 hu, .int .u8 po, .bool tg, .bool ha] 73) = w5 := ⟨_, rfl⟩
            have hb5 : Below w4.heap.size w4 w5 := by rw [← hw5]; exact (Below.refl _ w4).alloc (Nat.le_refl _) _
            rw [hw5]
            replace hX0 := heap_below hX0 hb5
            replace hX1 := heap_below hX1 hb5
            replace hA' := hA'.below hb5
            replace hbw := hbw.trans (hb5.mono hbw.size)
            clear hb5 hw5
            have hn6 : n' ≤ 10 * 256 := Nat.le_trans hn' (Nat.mul_le_mul (by omega) (by omega))
            obtain ⟨wt, hbeg, hBegin⟩ := hall A' n' c' vs' bs' w5 hbw (by omega) hn6 hA' hb' hP'
            clear hall hA' hb' hP' hn' hn6 hfar
            have arm := True.intro
            go_wp2_with (guard_target =~ wpList _ _ _ (_ :: _) _ _; first
              | refine wpList_load_row rfl (.tmp 4) 75 rfl (w.heap.size + 1) 75 _ _ rfl hX1 Tryz.underlying75 rfl (by kernel_rfl) ?_
              | refine wpList_load_row rfl (.tmp 3) 73 rfl w.heap.size 73 _ _ rfl hX0 Tryz.underlying73 rfl (by kernel_rfl) ?_)
            refine (hbeg _ (Below.refl _ _)).mono ?_
            rintro e w6 ⟨rfl, hb6⟩
            replace hX0 := heap_below hX0 hb6
            replace hX1 := heap_below hX1 hb6
            replace hbw := hbw.trans (hb6.mono hbw.size)
            go_wp2_with (guard_target =~ wpList _ _ _ (_ :: _) _ _; first
              | refine wpList_load_row rfl (.tmp 4) 75 rfl (w.heap.size + 1) 75 _ _ rfl hX1 Tryz.underlying75 rfl (by kernel_rfl) ?_
              | refine wpList_load_row rfl (.tmp 3) 73 rfl w.heap.size 73 _ _ rfl hX0 Tryz.underlying73 rfl (by kernel_rfl) ?_)
            refine (hBegin _ hb6).mono ?_
            rintro e w7 ⟨W, zz, rfl, ⟨x0, x1, x2, x3, x4, x5, x6, x7, x8, x9, x10, x11, x12, x13, x14, x15, x16, x17, x18, y18, z18, x19, x20, x21, x22, y22, z22, x23, x24, x25, x26, x27, x28, x29, y29, z29, x30, x31, x32, y32, z32, x33, y33, z33, x34, x35, x36, x37, x38, x39, x40, x41, y41, z41, x42, x43, x44, y44, z44, x45, y45, z45, x46, rfl⟩, hb7, hz, hnx, hW⟩
            replace hX0 := heap_below hX0 hb7
            replace hX1 := heap_below hX1 hb7
            replace hbw := hbw.trans (hb7.mono hbw.size)
            clear hbeg hBegin hb6 hb7
            have hne : ∀ (o : Obj) (i : Nat), i < w7.heap.size → (w7.alloc o).heap[i]? = w7.heap[i]? := fun o i hi => Below.heap_alloc w7 o i hi
            go_upto_region 24 with (guard_target =~ wpList _ _ _ (_ :: _) _ _; (refine wpList_store_row rfl (.tmp 12) (.tmp 90) 93 rfl w7.heap.size 0 93 _ _ #[.bool x0, .int .u8 x1, .int .u8 x2, .bool x3, .int .u8 x4, .int .i64 x5, .int .i64 x6, .int .u8 x7, .int .u8 x8, .int .u8 x9, .bool x10, .bool x11, .int .u8 x12, .int .u8 x13, .int .u8 x14, .int .u16 x15, .int .u16 x16, .int .u16 x17, .slice x18 y18 z18, .int .i64 x19, .bool x20, .int .i64 x21, .slice x22 y22 z22, .int .i64 x23, .int .i64 x24, .bool x25, .int .u8 x26, .int .i64 x27, .bool x28, .slice x29 y29 z29, .bool x30, .int .i64 x31, .slice x32 y32 z32, .slice x33 y33 z33, .int .i64 x34, .int .i64 x35, .bool x36, .int .i64 x37, .bool x38, .int .u8 x39, .int .i64 x40, .slice x41 y41 z41, .int .i64 x42, .int .i64 x43, .slice x44 y44 z44, .slice x45 y45 z45, .int .i64 x46] rfl rfl (heap_alloc_new w7 _) (by kernel_rfl) (by simp) rfl rfl ?_; intro w8 hZ8 hW8))
            have hs7 : w.heap.size + 1 < w7.heap.size := (Array.getElem?_eq_some_iff.1 hX1).1
            replace hX0 := (hW8.other w.heap.size (by omega)).trans ((hne _ _ (by omega)).trans hX0)
            have hb8 : Below w7.heap.size w7 w8 := ((Below.refl w7.heap.size w7).alloc (Nat.le_refl _) _).trans (hW8.below (Nat.le_refl _))
            replace hbw := hbw.trans (hb8.mono hbw.size)
            clear hX1 hne hW8
            go_wp2_with (guard_target =~ wpList _ _ _ (_ :: _) _ _; refine wpList_load_row rfl (.tmp 12) 93 rfl w7.heap.size 93 _ _ rfl hZ8 Tryz.underlying93 rfl (by kernel_rfl) ?_)
            clear hZ8
            have hnext : Calls Tryz.prog 26 #[.agg #[.bool x0, .int .u8 x1, .int .u8 x2, .bool x3, .int .u8 x4, .int .i64 x5, .int .i64 x6, .int .u8 x7, .int .u8 x8, .int .u8 x9, .bool x10, .bool x11, .int .u8 x12, .int .u8 x13, .int .u8 x14, .int .u16 x15, .int .u16 x16, .int .u16 x17, .slice x18 y18 z18, .int .i64 x19, .bool x20, .int .i64 x21, .slice x22 y22 z22, .int .i64 x23, .int .i64 x24, .bool x25, .int .u8 x26, .int .i64 x27, .bool x28, .slice x29 y29 z29, .bool x30, .int .i64 x31, .slice x32 y32 z32, .slice x33 y33 z33, .int .i64 x34, .int .i64 x35, .bool x36, .int .i64 x37, .bool x38, .int .u8 x39, .int .i64 x40, .slice x41 y41 z41, .int .i64 x42, .int .i64 x43, .slice x44 y44 z44, .slice x45 y45 z45, .int .i64 x46]] w8
                fun e w' => Below w8.heap.size w8 w' ∧ ∃ (a b p : Int) (tg is0 : Bool) (mx : Int) (A : Option Addr) (n c : Nat) (is : Bool), e = .returned (.tuple #[.agg #[.int .u8 a, .int .u8 b, .int .u8 p, .bool tg, .bool is0, .int .i64 mx, .slice A n c], .bool is]) ∧ (zz = 0 → is = true → b = en ∧ a = ad) ∧ (zz ≠ 0 → is = false) := by
              by_cases hz0 : zz = 0
              · refine (hnx hz0 w8 hb8).mono ?_
                rintro e w9 ⟨hb9, a9, b9, p9, t9, i9, m9, A9, n9, c9, is, rfl, his⟩
                exact ⟨hb9, a9, b9, p9, t9, i9, m9, A9, n9, c9, is, rfl, fun _ hi => ⟨(his hi).1, (his hi).2 _ rfl⟩, fun h => absurd hz0 h⟩
              · rw [hW hz0]
                refine (next_zero w8).mono ?_
                rintro e w9 ⟨rfl, hb9⟩
                exact ⟨hb9, 0, 0, 0, false, false, 0, none, 0, 0, false, rfl, fun h => absurd h hz0, fun _ => rfl⟩
            clear hnx hW
            refine hnext.mono ?_
            clear hnext
            rintro e w9 ⟨hb9, a9, b9, p9, t9, i9, m9, A9, n9, c9, is, rfl, his, hno⟩
            replace hX0 := heap_below hX0 hb9
            replace hbw := hbw.trans (hb9.mono hbw.size)
            clear hb9 hb8 arm
            go_upto_region 25 with fail
            obtain ⟨w10, hw10⟩ : ∃ w10, w9.alloc (.cells #[.int .u8 a9, .int .u8 b9, .int .u8 p9, .bool t9, .bool i9, .int .i64 m9, .slice A9 n9 c9] 98) = w10 := ⟨_, rfl⟩
            have hb10 : Below w9.heap.size w9 w10 := by rw [← hw10]; exact (Below.refl _ w9).alloc (Nat.le_refl _) _
            have hZ : w10.heap[w9.heap.size]? = some (.cells #[.int .u8 a9, .int .u8 b9, .int .u8 p9, .bool t9, .bool i9, .int .i64 m9, .slice A9 n9 c9] 98 (0, 0)) := by rw [← hw10]; exact heap_alloc_new w9 _
            rw [hw10]
            clear hw10
            replace hX0 := heap_below hX0 hb10
            replace hbw := hbw.trans (hb10.mono hbw.size)
            clear hb10
            have p0 := cell_of hX0 0
            have p1 := cell_of hX0 1
            have z0 := cell_of hZ 0
            have z1 := cell_of hZ 1
            clear hX0 hZ
            have hend : ∀ e w', Go.Sy.LawEnd w10 e w' → e = .returned (.bool true) ∧ Below w.heap.size w w' := fun e w' h => ⟨h.1, hbw.trans (h.2.mono hbw.size)⟩
            have hlv := hl w10 hbw
            clear hl
            by_cases hwt : wt = 0
            · subst hwt
              clear hz
              by_cases hz0 : zz = 0
              · subst hz0
                cases is
                · clear his hno
                  go_wp2_with fail
                  refine hlv.mono ?_
                  intro e w' h
                  obtain ⟨rfl, hbl⟩ := hend e w' h
                  go_wp2_with fail
                  go_ret
                  exact ⟨rfl, hbl⟩
                · obtain ⟨rfl, rfl⟩ := his rfl rfl
                  clear his hno
                  go_wp2_with fail
                  refine hlv.mono ?_
                  intro e w' h
                  obtain ⟨rfl, hbl⟩ := hend e w' h
                  go_wp2_with fail
                  go_ret
                  exact ⟨rfl, hbl⟩
              · obtain rfl := hno hz0
                clear his hno
                go_wp2_with fail
                refine hlv.mono ?_
                intro e w' h
                obtain ⟨rfl, hbl⟩ := hend e w' h
                go_wp2_with fail
                go_ret
                exact ⟨rfl, hbl⟩
            · obtain rfl := hz hwt
              obtain rfl := hno hwt
              clear his hno hz
              go_wp2_with fail
              refine hlv.mono ?_
              intro e w' h
              obtain ⟨rfl, hbl⟩ := hend e w' h
              go_wp2_with fail
              go_ret
              exact ⟨rfl, hbl⟩
end Go.Proofs.YthapmkbeolbmiaaGreatDoor
