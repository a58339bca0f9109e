/-
  What is proved here: the law's write: a packet is tried for some ticks.
  Conditions: the desk's state; the packet's bytes stay.
-/
import Derived.Test.YthifcblajimppaaDPlain
namespace Go.Proofs.Ythifcblajimppaa
open Go.Proofs Go.RowKit
attribute [local go_sem] lt2 lt3 lt4 lt5
variable {L : Nat → Prop} {d P : Nat} {mx : Nat}
def WrEnd (L : Nat → Prop) (d P : Nat) (N : Value) (mx : Nat) (r : Bool × Gs) (w : World) (e : Ending) (w' : World) : Prop :=
 e = .returned (.bool r.1) ∧ DkAt L d P N mx 1 r.2 w' ∧ Kp L w w'
set_option maxHeartbeats 8000000 in
set_option maxRecDepth 100000 in
theorem write_op (pN : Addr) (g0 : Gs) (w0 : World) (h : DkAt L d P (.pointer (some pN)) mx 1 g0 w0) (hI : g0.Inv mx) (B : Option Addr) (n c : Nat) (xs : List Int) (ha : Arg L w0 B n c xs) (hz : SlZ (.slice B n c) n B.isNone) (hx : xs.length ≤ mx) :
    Calls Try.prog 9 #[.pointer (some ⟨d, 0, none⟩), .slice B n c] w0 (WrEnd L d P (.pointer (some pN)) mx (g0.wr mx xs 4) w0) := by
  have HH := Lib.hid h
  have HI := Lib.hid hI
  have HA := Lib.hid ha
  have HZ := Lib.hid hz
  clear h hI ha hz
  go_enter Try.func9, Try.ntmps9
  go_wp2_with fail
  go_loopw [5] (fun i wr => ∃ (k : Nat) (g : Gs), i = .int .i64 k ∧ k ≤ 4 ∧ g.Inv mx ∧ DkAt L d P (.pointer (some pN)) mx 1 g wr ∧ Kp L w0 wr ∧ g0.wr mx xs 4 = g.wr mx xs (4 - k)) (fun i _ => 4 - (intOf i).toNat)
  case atStart => exact ⟨0, g0, rfl, by omega, HI.out, HH.out, Kp.refl _ _, rfl⟩
  case round =>
    obtain ⟨k, g, rfl, hk, hI, hD, hkp, heq⟩ := hrel
    have HIg := Lib.hid hI
    have HK := Lib.hid hkp
    have HEQ := Lib.hid heq
    by_cases hk4 : k = 4
    · subst hk4
      clear hI hkp heq
      go_wp2_with fail
      go_ret
      unfold WrEnd
      rw [HEQ.out]
      exact ⟨rfl, hD, HK.out⟩
    have q1 : (k : Int) < 4 := by omega
    have hstep : g0.wr mx xs 4 = if g.ep.room = 0 then ((g.try1 xs).tick mx).wr mx xs (4 - (k + 1)) else (true, { (g.try1 xs).tick mx with t1 := !((g.try1 xs).tick mx).t1 }) := by
      rw [heq, show 4 - k = (4 - (k + 1)) + 1 by omega]; rfl
    have HST := Lib.hid hstep
    obtain ⟨K, S, A1, n1, c1, A2, n2, c2, hmx, h⟩ := hD
    have hDk := h.desk
    rw [hI.t1] at hDk
    have hB := h.ep.base
    have hdl := (Array.getElem?_eq_some_iff.1 hDk).1
    have hag := HA.out.kp hkp
    have hd8 : D8 wr S B n c xs := ⟨hag.1, (Nat.eq_zero_or_pos n).imp id fun h0 => by
      obtain ⟨⟨_, _, _, ⟨_, h1, _⟩ | ⟨a, e, h4⟩⟩, h2⟩ := hag
      · omega
      · exact ⟨a, e, h.noS (h.far.2.2.1 _ (h2 a e (by omega)))⟩⟩
    have hdo := fun w2 (hb : Below wr.heap.size wr w2) => ep_out K w2 S g.ep g.ep.otg B n c xs (h.ep.below hb) rfl (hd8.below hb) HZ.out (by omega)
    have hbD : Below wr.heap.size wr wr.drew := (Below.refl _ _).drew
    have hbDA : ∀ o, Below wr.heap.size wr (wr.drew.alloc o) := fun o => below_undrew ((Below.refl _ wr.drew).alloc (Nat.le_refl _) o)
    have HP := Lib.hid h
    have hX := hDk
    unfold dkC at hX
    have x1 := cell_of hX 1
    have x3 := cell_of hX 3
    have y1 : ∀ o, (wr.drew.alloc o).cell? ⟨d, 1, none⟩ = some (.pointer (some ⟨K.s, 0, none⟩)) := fun o => (World.cell?_alloc_lt _ o _ (World.block_lt_of_cell? _ _ x1)).trans x1
    have y3 : ∀ o, (wr.drew.alloc o).cell? ⟨d, 3, none⟩ = some (.bool g.ep.otg) := fun o => (World.cell?_alloc_lt _ o _ (World.block_lt_of_cell? _ _ x3)).trans x3
    have z1 : ∀ o, (wr.alloc o).cell? ⟨d, 1, none⟩ = some (.pointer (some ⟨K.s, 0, none⟩)) := fun o => (World.cell?_alloc_lt _ o _ (World.block_lt_of_cell? _ _ x1)).trans x1
    have z3 : ∀ o, (wr.alloc o).cell? ⟨d, 3, none⟩ = some (.bool g.ep.otg) := fun o => (World.cell?_alloc_lt _ o _ (World.block_lt_of_cell? _ _ x3)).trans x3
    clear hX hDk hI hkp heq hstep hag hd8
    have HE := Lib.hid h.ep
    clear h
    go_upto_region 4 with fail
    go_cut [6] from 6 to 28 (fun v wx => ∃ bx, v = .pointer (some ⟨bx, 0, none⟩) ∧ OutcAt K wr S (((g.ep.wt xs).1, []), (g.ep.wt xs).2) bx wx)
    case first =>
      go_upto_region 4 with fail
      go_region_with (go_at_call 27; first
        | (refine (hdo _ hbD).mono ?_; rintro e w1 ⟨S1, A1', n1', c1', sA, sn, sc, rfl, hE1, hm1, hd1, hf1⟩)
        | (refine (hdo _ (hbDA _)).mono ?_; rintro e w1 ⟨S1, A1', n1', c1', sA, sn, sc, rfl, hE1, hm1, hd1, hf1⟩
           have hbx : w1.heap[wr.heap.size]? = some (.cells #[.int .u8 0, .slice none 0 0] 77 (0, 0)) := hm1.heap (heap_alloc_new wr.drew _) (fun hs => by have := HE.out.lt _ hs; exact Nat.lt_irrefl _ this)
           have u0 := cell_of hbx 0; have u1 := cell_of hbx 1; have v0 := frozen_of hbx 0; have v1 := frozen_of hbx 1))
      all_goals
        go_wp2_with fail
        go_meet
        first
          | (have _t := hbx
             have hP := ((Put1.refl hbx).set 0 (.int .u8 (g.ep.wt xs).1)).set 1 (.slice A1' n1' c1')
             exact ⟨_, rfl, outc_old (hbDA _) HE.out hE1 hm1 hd1 hf1 (Nat.le_refl _) (by simp) hP.wrote hP.heap⟩)
          | exact ⟨_, rfl, outc_new hbD hE1 hm1 hd1 hf1⟩
    case rest =>
      obtain ⟨bx, rfl, S1, A1', n1', c1', hO, hge, hgs, hE1, hm1, hd1, hf1⟩ := hcut
      have hp1 := HP.out.mv hE1 hm1
      have hbl : bx < wc.heap.size := (Array.getElem?_eq_some_iff.1 hO).1
      have hPl := (Array.getElem?_eq_some_iff.1 HP.out.port).1
      obtain ⟨F, hB2, hp2⟩ := hp1.1.widen bx ⟨by omega, hbl⟩ hgs ⟨by omega, by omega, fun b e => by have := HP.out.r1.lt b e; omega, fun b e => by have := HP.out.r2.lt b e; omega⟩
      have htry := Gs.try_ok HIg.out hx
      have htk := tick_ret (fun i => L i ∨ i = bx) d P pN mx (g.try1 xs) wc htry.1 ⟨K.on _ F hB2, S1, _, _, _, _, _, _, hmx, hp2⟩
      have hX := hp1.1.desk
      unfold dkC at hX
      have w0' := cell_of hX 0
      have HKP1 := Lib.hid hp1.2
      have HO := Lib.hid hO
      clear hX hp1 hp2 hE1 hm1 hd1 hf1 hdo hbDA hbD x1 x3 y1 y3 z1 z3 htry hO
      obtain ⟨g5, hg5⟩ : ∃ g5, (g.try1 xs).tick mx = g5 := ⟨_, rfl⟩
      have HG5 := Lib.hid hg5
      clear hg5
      go_wp2_with fail
      refine htk.mono ?_
      rintro e w5 ⟨rfl, hD5, hk5⟩
      have hO5 := (hk5.block bx hbl (.inr rfl)).trans HO.out
      have hkp5 : Kp L w0 w5 := HK.out.trans (HKP1.out.trans (hk5.sub (fun i h => .inl h)))
      have hD5' := hD5.narrow (L' := L) (fun i h => .inl h)
      rw [HG5.out] at hD5'
      obtain ⟨s5, hd5⟩ := hD5'.desk
      have o0 := cell_of hO5 0
      have HK5 := Lib.hid hkp5
      have HD5 := Lib.hid hD5'
      clear htk hD5 hk5 hO5 hkp5 hD5'
      by_cases hr : g.ep.room = 0
      · have hwt : (g.ep.wt xs).1 = 2 := by unfold EpS.wt; rw [if_pos hr]
        rw [hwt] at o0
        have hst := HST.out
        rw [if_pos hr, HG5.out] at hst
        have hin := Gs.try_no HIg.out hx hr
        rw [HG5.out] at hin
        have HIN := Lib.hid hin
        have HST2 := Lib.hid hst
        clear hwt hr hst hin hd5
        go_wp2_with fail
        go_roundw
        case rel => exact ⟨k + 1, g5, by push_cast; rfl, by omega, HIN.out, HD5.out, HK5.out, HST2.out⟩
        case measure => simp [intOf]; omega
      · have hwt : (g.ep.wt xs).1 = 1 := by unfold EpS.wt; rw [if_neg hr]
        rw [hwt] at o0
        have hst := HST.out
        rw [if_neg hr, HG5.out] at hst
        have HST2 := Lib.hid hst
        clear hwt hr hst
        have hX := hd5
        unfold dkC at hX
        have q3 := cell_of hX 3
        have f3 := frozen_of hX 3
        have HD := Lib.hid hd5
        clear hX hd5
        go_upto_region 7 with fail
        go_region
        have hP := (Put1.refl HD.out).set 3 (.bool (!g5.t1))
        obtain ⟨w2, hw2⟩ : ∃ w2, (w5.setCell ⟨d, 3, none⟩ (.bool (!g5.t1))).drew = w2 := ⟨_, rfl⟩
        have hPh : w2.heap[d]? = some (.cells (dkC P s5 g5.t0 (!g5.t1) false mx false) 32 (0, 0)) := by rw [← hw2]; exact hP.heap
        have hPw : Wrote d w5 w2 := by rw [← hw2]; exact hP.wrote.drew
        rw [hw2]
        clear hw2 hP q3 f3 o0 w0'
        go_wp2_with fail
        go_ret
        obtain ⟨K5, S5, B1, m1, e1, B2, m2, e2, hmx5, h5⟩ := HD5.out
        have hs5 : s5 = K5.s := by
          have h6 := HD.out.symm.trans h5.desk
          have h7 := congrArg (fun o : Option Obj => match o with | some (.cells cs _ _) => cs[1]? | _ => none) h6
          simp only [dkC] at h7
          simpa using h7
        subst hs5
        have h7 := h5.deskw (t0 := g5.t0) (t1 := !g5.t1) hPw (by rw [hmx5]; exact hPh)
        unfold WrEnd
        rw [HST2.out]
        exact ⟨rfl, ⟨K5, S5, _, _, _, _, _, _, hmx5, h7.1⟩, HK5.out.trans h7.2⟩
end Go.Proofs.Ythifcblajimppaa
