/-
  What is proved here: the port's Tick: it takes what came, says whether there is room, and offers what waits.
  Conditions: what the port's and the endpoints' cells hold; there is room for what came.
-/
import Derived.Test.YthifcblajimppaaDPort
import Derived.Test.YthifcblajimppaaDR14
import Derived.BigQuiet
namespace Go.Proofs.Ythifcblajimppaa
open Go.Proofs Go.RowKit
attribute [local go_sem] lt2 lt3 lt4 lt5
attribute [-go_sem] Builtin.append_
def Gs.got (g : Gs) : Gs := { g with pb := g.pb ++ g.ep.tk.getD [], ep := { g.ep with tk := none } }
def Gs.rm (mx : Nat) (g : Gs) : Gs := { g with ep := { g.ep with room := if g.pb.length + mx ≤ 256 then 1 else 0, tk := none } }
def Gs.off (mx : Nat) (g : Gs) : Gs :=
 if g.ep.q = [] ∧ g.pin ≠ [] then { g with pin := g.pin.drop mx, ep := { g.ep with q := g.pin.take mx :: (if g.pin.length = mx then [[]] else []) } } else g
def Gs.clk (g : Gs) : Gs := { g with t := (g.t + 1) % 8 }
def Gs.tick (mx : Nat) (g : Gs) : Gs := (((g.clk).got).rm mx).off mx
variable {L : Nat → Prop} {d P : Nat} {K : EpK} {S : Nat → Prop} {g : Gs} {ln : Int} {N : Value} {A1 : Option Addr} {n1 c1 : Nat} {A2 : Option Addr} {n2 c2 : Nat} {w : World}
theorem PtAt.app (h : PtAt L d P K S g ln N A1 n1 c1 A2 n2 c2 w) {B : Option Addr} {m e : Nat} {ys : List Int} (hU : U8 w B m e ys) (hs : n1 + m ≤ 65536) :
  ∃ A' c' w3, (Builtin.append_ #[33, 33] 33 #[.slice A1 n1 c1, .slice B m e]).run Try.prog w = .ok (.slice A' (n1 + m) c') w3 ∧ w3.heap[P]? = some (.cells (ptC K.I K.O A1 n1 c1 A2 n2 c2 ln g.t N) 67 (0, 0)) ∧
   ∀ w4, Wrote P w3 w4 → w4.heap[P]? = some (.cells (ptC K.I K.O A' (n1 + m) c' A2 n2 c2 ln g.t N) 67 (0, 0)) → ∃ F hB, PtAt L d P (K.on w4.heap.size F hB) S { g with pb := g.pb ++ ys } ln N A' (n1 + m) c' A2 n2 c2 w4 ∧ Kp L w w4 := by
 obtain ⟨A', c', w3, hrun, hR, hef⟩ := rowb_append h.r1 hU hs
 have hPl := (Array.getElem?_eq_some_iff.1 h.port).1
 have hnew : ∀ a, A' = some a → A' = A1 ∨ w.heap.size ≤ a.block := by
  rcases hef with ⟨_, rfl⟩ | (⟨rfl, _⟩ | ⟨_, h⟩)
  ·exact fun _ _ => .inl rfl
  ·exact fun _ _ => .inl rfl
  ·exact fun a e => .inr (h a e)
 have hsz : w.heap.size ≤ w3.heap.size := by
  rcases hef with ⟨rfl, _⟩ | hef
  ·exact Nat.le_refl _
  ·exact hef.size
 have hext : w3.os = w.os ∧ w3.tape = w.tape ∧ w3.output = w.output := by
  rcases hef with ⟨rfl, _⟩ | hef
  ·exact ⟨rfl, rfl, rfl⟩
  ·exact hef.ext
 have hoth : ∀ i, i < w.heap.size → (∀ a, A1 = some a → a.block ≠ i) → w3.heap[i]? = w.heap[i]? := by
  rcases hef with ⟨rfl, _⟩ | hef
  ·exact fun _ _ _ => rfl
  ·exact fun i hi h => hef.other hi h
 refine ⟨A', c', w3, hrun, (hoth P hPl fun a e => (h.f1 a e).2.1).trans h.port, fun w4 hW h4 => ?_⟩
 obtain ⟨x1, x2, x3⟩ := hext
 have hAP : ∀ a, A' = some a → a.block ≠ P := fun a e => by
  rcases hnew a e with h1 | h1
  ·exact (h.f1 a (h1 ▸ e)).2.1
  ·omega
 have := h.put (w' := w4) (X := fun i => i = P ∨ ∃ a, A1 = some a ∧ i = a.block) (ln' := ln) (t' := g.t) (A1' := A') (n1' := n1 + m) (c1' := c') (A2' := A2) (n2' := n2) (c2' := c2) (pb' := g.pb ++ ys) (pin' := g.pin)
  ⟨hW.os.trans x1, hW.tape.trans x2, hW.output.trans x3, by have := hW.size; omega, fun i hi hs => (hW.other i (fun e => hs (.inl e))).trans (hoth i hi (fun a e e2 => hs (.inr ⟨a, e, e2.symm⟩))), fun _ _ h => h⟩
  (fun i _ hx => hx.elim (fun e => e ▸ ⟨h.far.1, fun e => h.far.2.2.2.1 e.symm, h.far.2.2.2.2.2⟩) (fun ⟨a, e, e2⟩ => e2 ▸ ⟨(h.f1 a e).1, (h.f1 a e).2.2⟩))
  h4 (hR.keep fun a e => hW.other _ (hAP a e)) (h.r2.keep fun a e => (hW.other _ (h.f2 a e).2.1).trans (hoth _ (h.r2.lt a e) fun b eb => h.f12 b a eb e)) hnew (fun _ _ => .inl rfl) (fun a b e e2 => by
   rcases hnew a e with h1 | h1
   ·exact h.f12 a b (h1 ▸ e) e2
   ·have := h.r2.lt b e2; omega)
 exact this
def DkAt (L : Nat → Prop) (d P : Nat) (N : Value) (mx : Nat) (ln : Int) (g : Gs) (w : World) : Prop :=
 ∃ K S A1 n1 c1 A2 n2 c2, K.mx = mx ∧ PtAt L d P K S g ln N A1 n1 c1 A2 n2 c2 w
structure Gs.Ok (mx : Nat) (g : Gs) : Prop where
 mx : 0 < mx ∧ mx ≤ 1024
 pb : g.pb.length ≤ 256
 pin : g.pin.length ≤ 256
 tk : ∀ xs, g.ep.tk = some xs → g.pb.length + xs.length ≤ 256
 t : 0 ≤ g.t ∧ g.t < 8
theorem bit1 : bits BinOp.and IntKind.u8 1 1 = 1 := by kernel_rfl
def TickEnd (L : Nat → Prop) (d P : Nat) (N : Value) (mx : Nat) (g : Gs) (w : World) (e : Ending) (w' : World) : Prop :=
 e = .returned (.tuple #[]) ∧ DkAt L d P N mx 1 (g.tick mx) w' ∧ Kp L w w'
set_option maxHeartbeats 4000000 in
set_option maxRecDepth 100000 in
theorem tick_ret (L : Nat → Prop) (d P : Nat) (pN : Addr) (mx : Nat) (g : Gs) (w : World) (hok : g.Ok mx) (h : DkAt L d P (.pointer (some pN)) mx 1 g w) :
  Calls Try.prog 7 #[.pointer (some ⟨P, 0, none⟩)] w (TickEnd L d P (.pointer (some pN)) mx g w) := by
 have HOK := Lib.hid hok
 have HH := Lib.hid h
 clear h hok
 go_enter Try.func7, Try.ntmps7
 go_upto_region 1 with fail
 obtain ⟨cs0, hP0, hc10, hc11⟩ : ∃ cs, w.heap[P]? = some (.cells cs 67 (0, 0)) ∧ cs[10]? = some (.int .i64 0) ∧ cs[11]? = some (.int .i64 g.t) := by
  obtain ⟨K, S, A1, n1, c1, A2, n2, c2, hmx, h⟩ := HH.out
  exact ⟨_, h.port, rfl, rfl⟩
 have hw1 : IntKind.i64.wrap (g.t + 1) = g.t + 1 := IntWalk.i64_in _ (by have := HOK.out.t; omega)
 have x11 : w.cell? ⟨P, 11, none⟩ = some (.int .i64 g.t) := (cell_of hP0 11).trans hc11
 have f11 := frozen_of hP0 11
 have hP1 : (w.setCell ⟨P, 11, none⟩ (.int .i64 (g.t + 1))).heap[P]? = some (.cells (cs0.setIfInBounds 11 (.int .i64 (g.t + 1))) 67 (0, 0)) := ((Put1.refl hP0).set 11 (.int .i64 (g.t + 1))).heap
 have hl11 : 11 < cs0.size := (Array.getElem?_eq_some_iff.1 hc11).1
 have y11 : (w.setCell ⟨P, 11, none⟩ (.int .i64 (g.t + 1))).cell? ⟨P, 11, none⟩ = some (.int .i64 (g.t + 1)) := (cell_of hP1 11).trans (Array.getElem?_setIfInBounds_self_of_lt hl11)
 have y10 : (w.setCell ⟨P, 11, none⟩ (.int .i64 (g.t + 1))).cell? ⟨P, 10, none⟩ = some (.int .i64 0) := (cell_of hP1 10).trans ((Array.getElem?_setIfInBounds_ne (by omega)).trans hc10)
 have g11 := frozen_of hP1 11
 have HY := Lib.hid (⟨y11, y10, g11⟩ : _ ∧ _ ∧ _)
 clear hP1 y11 y10 g11 hP0 hc10 hc11
 go_upto_region 2 with fail
 obtain ⟨w1, hw1'⟩ : ∃ w1, w.setCell ⟨P, 11, none⟩ (.int .i64 (g.t + 1)) = w1 := ⟨_, rfl⟩
 rw [hw1'] at HY ⊢
 have HW1 := Lib.hid hw1'
 obtain ⟨y11, y10, g11⟩ := HY.out
 have hcs : g.t = 0 ∨ g.t = 1 ∨ g.t = 2 ∨ g.t = 3 ∨ g.t = 4 ∨ g.t = 5 ∨ g.t = 6 ∨ g.t = 7 := by have := HOK.out.t; omega
 have HCS := Lib.hid hcs
 clear hw1' hcs x11 f11 hw1
 go_cut [37] from 18 to 37 (fun v wx => v = .bool false ∧ wx = w1)
 case first =>
  rcases HCS.out with e | e | e | e | e | e | e | e
  all_goals
   rw [e] at y11
   go_wp2_with fail
   go_meet
   exact ⟨rfl, rfl⟩
 case rest =>
 obtain ⟨rfl, hwx⟩ := hcut
 rw [hwx]
 clear hwx
 go_upto_region 4 with fail
 go_cut [] from 45 to 51 (fun wx => DkAt L d P (.pointer (some pN)) mx 1 g.clk wx ∧ Kp L w wx)
 case first =>
  obtain ⟨K, S, A1, n1, c1, A2, n2, c2, hmx, h⟩ := HH.out
  have ht := HOK.out.t
  have hfin : ∀ (b : Int), b = (g.t + 1) % 8 → DkAt L d P (.pointer (some pN)) mx 1 g.clk (w1.setCell ⟨P, 11, none⟩ (.int .i64 b)) ∧ Kp L w (w1.setCell ⟨P, 11, none⟩ (.int .i64 b)) := by
   intro b e
   rw [← HW1.out]
   have hP := ((Put1.refl h.port).set 11 (.int .i64 (g.t + 1))).set 11 (.int .i64 b)
   have hW := hP.wrote
   obtain ⟨F, hB, h1, h2⟩ := h.put (X := fun i => i = P) ⟨hW.os, hW.tape, hW.output, Nat.le_of_eq hW.size.symm, fun i _ hs => hW.other i hs, fun _ _ h => h⟩ (fun i _ e => e ▸ ⟨h.far.1, fun e => h.far.2.2.2.1 e.symm, h.far.2.2.2.2.2⟩) hP.heap (h.r1.keep fun a e => hW.other _ (h.f1 a e).2.1) (h.r2.keep fun a e => hW.other _ (h.f2 a e).2.1) (fun _ _ => .inl rfl) (fun _ _ => .inl rfl) h.f12
   subst e
   exact ⟨⟨K.on _ F hB, S, A1, n1, c1, A2, n2, c2, hmx, h1⟩, h2⟩
  have HF := Lib.hid hfin
  clear hfin h
  rcases HCS.out with e | e | e | e | e | e | e | e
  all_goals
   rw [e] at y11
   go_wp2_with fail
   go_meet
   exact HF.out _ (by omega)
 case rest =>
  obtain ⟨⟨K, S, A1, n1, c1, A2, n2, c2, hmx, h⟩, hb0⟩ := hcut
  have hgt : g.clk.ep = g.ep ∧ g.clk.pb = g.pb ∧ g.clk.pin = g.pin := ⟨rfl, rfl, rfl⟩
  have hok1 : g.clk.Ok mx := ⟨HOK.out.mx, HOK.out.pb, HOK.out.pin, HOK.out.tk, show 0 ≤ (g.t + 1) % 8 by omega, show (g.t + 1) % 8 < 8 by omega⟩
  have hdef : g.tick mx = ((g.clk.got).rm mx).off mx := rfl
  generalize g.clk = g1 at h hok1 hdef hgt
  have HD := Lib.hid hdef
  have HB0 := Lib.hid hb0
  have HOK1 := Lib.hid hok1
  have hX := h.port
  unfold ptC at hX
  have x7 := cell_of hX 7
  have x12 := cell_of hX 12
  have x13 := cell_of hX 13
  have HP := Lib.hid h
  clear hdef hb0 hok1 hgt hX h HOK HH
  obtain ⟨T, tn, tc, hO, hT, hr, hrt⟩ := HP.out.ep.out
  have hTc : tn ≤ tc := by
   rcases hk : g1.ep.tk with _ | xs
   ·rw [hk] at hT; obtain ⟨_, rfl, rfl⟩ := hT; exact Nat.le_refl _
   ·rw [hk] at hT; obtain ⟨rfl, _, _, _, _, h, _⟩ := hT; exact h
  have htk := taken_ret K.O none 0 0 g1.ep.room T tn tc 2 false 2 K.mx g1.ep.otg false wc (by have := HOK1.out.mx.1; omega) hTc hO
  have HT := Lib.hid hT
  have HR := Lib.hid hr
  clear hO hT hr hrt
  go_wp2_with fail
  trace_state
  refine htk.mono ?_
  rintro e w2 ⟨rfl, hW2, hO2⟩
  have hp2 := HP.out.outw hW2 HR.out hO2
  have hbw := HB0.out
  rw [bit1] at *
  go_upto_block 0 with fail
  go_cut [] from 69 to 94 (fun wx => DkAt L d P (.pointer (some pN)) mx 1 g1.got wx ∧ Kp L wc wx)
  case first =>
   have hT := HT.out
   rcases hk : g1.ep.tk with _ | xs
   ·rw [hk] at hT
    obtain ⟨rfl, rfl, rfl⟩ := hT
    have hE : g1.got = { g1 with ep := { g1.ep with room := g1.ep.room, tk := none } } := by unfold Gs.got; rw [hk]; simp
    go_wp2_with fail
    go_loopw [69] (fun i wr => i = .int .i64 0 ∧ wr = w2) (fun _ _ => 0)
    case atStart => exact ⟨rfl, rfl⟩
    case round =>
     obtain ⟨rfl, rfl⟩ := hrel
     go_wp2_with fail
     go_meet
     rw [hE]
     exact ⟨⟨_, _, _, _, _, _, _, _, hmx, hp2.1⟩, hp2.2⟩
   ·rw [hk] at hT
    obtain ⟨rfl, gT, gd, cd, rfl, htc, hcell, hF, hs1, hne1, hne2⟩ := hT
    have hc2 : w2.cell? ⟨gT, 0, none⟩ = some (.slice (some ⟨gd, 0, none⟩) xs.length cd) := (World.cell?_of_block (a := ⟨gT, 0, none⟩) (hW2.other gT hne1.2.2)).trans hcell
    have hF2 : F8 w2 gd xs.length cd xs := hF.heap (fun o ho => (hW2.other gd hne2.2.2).trans ho)
    have hfit := HOK1.out.tk xs hk
    have hn1 : g1.pb.length = n1 := hp2.1.r1.u8.1
    have q1 : decide ((xs.length : Int) ≤ 256 - (n1 : Int)) = true := by simp; omega
    obtain ⟨A', c', w3, hrun, hP3, hfin⟩ := hp2.1.app hF2.u8 (by omega)
    have x0 : w2.cell? ⟨P, 0, none⟩ = some (.slice A1 n1 c1) := cell_of hp2.1.port 0
    have hfr := qfree_ret ⟨P, 0, none⟩ A1 n1 c1 w2 (by omega) x0
    have f0 := frozen_of hP3 0
    have z0 : w3.cell? ⟨P, 0, none⟩ = some (.slice A1 n1 c1) := cell_of hP3 0
    have hP4 := ((Put1.refl hP3).set 0 (.slice A' (n1 + xs.length) c'))
    obtain ⟨F, hB, hp4, hb4⟩ := hfin _ hP4.wrote hP4.heap
    have hE : g1.got = { g1 with pb := g1.pb ++ xs, ep := { g1.ep with room := g1.ep.room, tk := none } } := by unfold Gs.got; rw [hk]; simp
    have hres : DkAt L d P (.pointer (some pN)) mx 1 g1.got (w3.setCell ⟨P, 0, none⟩ (.slice A' (n1 + xs.length) c')) ∧ Kp L wc (w3.setCell ⟨P, 0, none⟩ (.slice A' (n1 + xs.length) c')) := by
     rw [hE]
     exact ⟨⟨K.on _ F hB, _, _, _, _, _, _, _, hmx, hp4⟩, hp2.2.trans hb4⟩
    have HRES := Lib.hid hres
    clear hres hfin hP4 hp4 hb4 hF hF2 hcell hP3 hp2 hW2 hO2
    go_wp2_with fail
    go_loopw [69] (fun i wr => (i = .int .i64 0 ∧ wr = w2) ∨ (i = .int .i64 1 ∧ DkAt L d P (.pointer (some pN)) mx 1 g1.got wr ∧ Kp L wc wr)) (fun i _ => 1 - (intOf i).toNat)
    case atStart => exact .inl ⟨rfl, rfl⟩
    case round =>
     rcases hrel with ⟨rfl, rfl⟩ | ⟨rfl, hres⟩
     ·go_wp2_with fail
      refine hfr.mono ?_
      rintro e w0 ⟨rfl, hw0⟩
      rw [hw0]
      clear hw0
      go_wp2_with fail
      go_roundw
      case rel => exact .inr ⟨rfl, HRES.out⟩
      case measure => simp [intOf]
     ·go_wp2_with fail
      go_meet
      exact hres
  case rest =>
  obtain ⟨⟨K2, S2, B1, m1, e1, B2, m2, e2, hmx2, h2⟩, hb2⟩ := hcut
  subst hmx2
  have hb := HB0.out.trans hb2
  have hdef := HD.out
  have hok := HOK1.out
  have hg2 : g1.got.ep.tk = none ∧ g1.got.pb.length ≤ 256 ∧ g1.got.pin = g1.pin := ⟨rfl, by
   show (g1.pb ++ g1.ep.tk.getD []).length ≤ 256
   have h1 := hok.tk
   have h3 := hok.pb
   rcases hk : g1.ep.tk with _ | xs
   ·simpa using h3
   ·have := h1 xs hk; simpa using this, rfl⟩
  have hpin := hok.pin
  have hmm := hok.mx
  clear htk HT HR hmx hp2 hW2 hO2 hbw hok hb2
  generalize g1.got = g2 at h2 hdef hg2
  obtain ⟨hk2, hpb2, hpn2⟩ := hg2
  rw [← hpn2] at hpin
  have hX := h2.port
  unfold ptC at hX
  have x0 := cell_of hX 0
  have x13 := cell_of hX 13
  have hpbn : g2.pb.length = m1 := h2.r1.u8.1
  obtain ⟨T, tn, tc, hO, hT, hr, hrt⟩ := h2.ep.out
  rw [hk2] at hT
  obtain ⟨rfl, rfl, rfl⟩ := hT
  clear hX
  have HP2 := Lib.hid h2
  have HB := Lib.hid hb
  have HD2 := Lib.hid hdef
  have hfr := qfree_ret ⟨P, 0, none⟩ B1 m1 e1 wc (by omega) x0
  clear h2 hb hdef
  go_upto_region 14 with fail
  have hPl := (Array.getElem?_eq_some_iff.1 HP2.out.port).1
  refine r14 (P := P) (O := K2.O) (256 - (m1 : Int)) K2.mx 2 2 false (by kernel_rfl) rfl
   ⟨_, rfl, rfl, rfl, rfl, by kernel_rfl⟩ ⟨_, rfl, rfl, rfl, rfl, by kernel_rfl⟩ ⟨_, rfl, rfl, rfl, rfl, rfl, by kernel_rfl⟩ ⟨_, rfl, rfl, rfl, rfl, rfl, by kernel_rfl⟩ ⟨_, rfl, rfl, rfl, rfl, rfl, by kernel_rfl⟩ ⟨_, rfl, rfl, rfl, rfl, rfl, by kernel_rfl⟩ ⟨_, rfl, rfl, rfl, rfl, rfl, by kernel_rfl⟩ ⟨_, rfl, rfl, rfl, rfl, rfl, by kernel_rfl⟩ ⟨_, rfl, rfl, rfl, rfl, rfl, by kernel_rfl⟩ ⟨_, rfl, rfl, rfl, rfl, rfl, by kernel_rfl⟩ ⟨_, rfl, rfl, rfl, rfl, rfl, by kernel_rfl⟩ ⟨_, rfl, rfl, rfl, rfl, rfl, by kernel_rfl⟩ ⟨_, rfl, rfl, rfl, rfl, rfl, by kernel_rfl⟩ ⟨_, rfl, rfl, rfl, rfl, by kernel_rfl⟩
   rfl rfl rfl (fun w hb => (World.cell?_of_block (a := ⟨P, 13, none⟩) (hb.block P hPl)).trans x13)
   (fun w hb => (qfree_ret ⟨P, 0, none⟩ B1 m1 e1 w (by omega) ((World.cell?_of_block (a := ⟨P, 0, none⟩) (hb.block P hPl)).trans x0)).mono (by rintro e w' ⟨rfl, rfl⟩; exact ⟨rfl, Below.refl _ _⟩))
   (fun w hb => config_ret K2.O none 0 0 g2.ep.room none 0 0 2 false 2 K2.mx g2.ep.otg false w (by omega) (heap_below hO hb)) ?_
  intro a9 w9 hF9 h108 hb9
  rw [hF9.puts]
  simp only [List.foldl_cons, List.foldl_nil]
  rw [h108]
  generalize a9.eval (.tmp 95) = y95
  generalize a9.eval (.tmp 96) = y96
  generalize a9.eval (.tmp 97) = y97
  generalize a9.eval (.tmp 98) = y98
  generalize a9.eval (.tmp 99) = y99
  generalize a9.eval (.tmp 100) = y100
  generalize a9.eval (.tmp 101) = y101
  generalize a9.eval (.tmp 102) = y102
  generalize a9.eval (.tmp 103) = y103
  generalize a9.eval (.tmp 104) = y104
  generalize a9.eval (.tmp 105) = y105
  generalize a9.eval (.tmp 106) = y106
  generalize a9.eval (.tmp 107) = y107
  simp only [Act.put, List.setIfInBounds_toArray, List.set_cons_succ, List.set_cons_zero]
  clear hF9 h108 hfr
  obtain ⟨r, hr0⟩ : ∃ r : Int, (if g2.pb.length + K2.mx ≤ 256 then 1 else 0) = r := ⟨_, rfl⟩
  have hr1 : r = 0 ∨ r = 1 := by rw [← hr0]; split <;> simp
  have HR1 := Lib.hid hr1
  have HR0 := Lib.hid hr0
  go_upto_if 108 with fail
  clear hr0 hr1
  go_cut [5] from 5 to 108 (fun v wx => v = .int .i64 r ∧ wx = w9)
  case first =>
   by_cases hfit : g2.pb.length + K2.mx ≤ 256
   ·have q2 : decide ((K2.mx : Int) ≤ 256 - (m1 : Int)) = true := by simp; omega
    rw [q2]
    go_wp2_with fail
    go_meet
    rw [← HR0.out, if_pos hfit]; exact ⟨rfl, rfl⟩
   ·have q2 : decide ((K2.mx : Int) ≤ 256 - (m1 : Int)) = false := by simp; omega
    rw [q2]
    go_wp2_with fail
    go_meet
    rw [← HR0.out, if_neg hfit]; exact ⟨rfl, rfl⟩
  case rest =>
  obtain ⟨rfl, hwx⟩ := hcut
  rw [hwx]
  clear hwx
  have hp9 := HP2.out.below hb9
  have hB9 := HB.out.trans hp9.2
  have hX := hp9.1.port
  unfold ptC at hX
  have y13 := cell_of hX 13
  have hro := room_ret K2.O none 0 0 g2.ep.room r none 0 0 2 2 K2.mx g2.ep.otg false w9 (by omega) HR1.out (heap_below hO hb9)
  have HP9 := Lib.hid hp9.1
  have HB9 := Lib.hid hB9
  clear hX hp9 hB9 hO hr hrt x0 x13 hb9
  go_wp2_with fail
  refine hro.mono ?_
  rintro e w10 ⟨rfl, hW10, hO10⟩
  have hp10 := HP9.out.outw hW10 HR1.out hO10
  have hrm : g2.rm K2.mx = { g2 with ep := { g2.ep with room := r, tk := none } } := by unfold Gs.rm; rw [HR0.out]
  have hdef := HD2.out
  rw [← hrm] at hp10
  have hgr : (g2.rm K2.mx).pin = g2.pin := rfl
  have hgp : (g2.rm K2.mx).pb.length ≤ 256 := hpb2
  generalize g2.rm K2.mx = g3 at hp10 hdef hgr hgp
  rw [← hgr] at hpin
  have hB10 := HB9.out.trans hp10.2
  obtain ⟨Q, qn, qc, hI, ⟨hl0, hc0, hQ0⟩, ⟨vs, hrow⟩, hrl⟩ := hp10.1.ep.inn
  have hX := hp10.1.port
  unfold ptC at hX
  have y12 := cell_of hX 12
  have y1 := cell_of hX 1
  have hcf := config_ret K2.I Q qn qc K2.rI none 0 0 1 true 2 K2.mx g3.ep.itg false w10 (by omega) hI
  have HI := Lib.hid hI
  have HP10 := Lib.hid hp10.1
  have HB10 := Lib.hid hB10
  have HDF := Lib.hid hdef
  have HRW := Lib.hid hrow
  clear hro y13 hW10 hO10 hp10 hB10 hX hI hQ0 hrl hrm hdef hrow hgr hgp
  obtain ⟨bb, hbb⟩ : ∃ bb : Bool, decide (g3.ep.q = [] ∧ g3.pin ≠ []) = bb := ⟨_, rfl⟩
  have hpl : g3.pin.length = m2 := HP10.out.r2.u8.1
  go_upto_region 17 with fail
  go_cut [6] from 115 to 120 (fun v wx => v = .int .i64 K2.mx ∧ Below w10.heap.size w10 wx)
  case first =>
   have hfl : ∀ w, (Instr.field 55 (Value.agg #[.int .u8 1, .bool true, .int .u8 2, .int .i64 K2.mx]) 3).run Try.prog w = .ok (.int .i64 K2.mx) w := fun w => rfl
   go_wp2_with fail
   refine hcf.mono ?_
   rintro e w11 ⟨rfl, hb11⟩
   go_wp2_with fail
   go_meet
   exact ⟨rfl, hb11⟩
  case rest =>
  obtain ⟨rfl, hb11⟩ := hcut
  clear hcf
  have hI := heap_below HI.out hb11
  have hX := hI
  unfold epC at hX
  have z6 := cell_of hX 6
  have z0 := cell_of hX 0
  have hwt := waiting_ret K2.I Q qn qc K2.mx wc (by omega) z6 z0
  have y1' := (World.cell?_of_block (a := ⟨P, 1, none⟩) (hb11.block P (Array.getElem?_eq_some_iff.1 HP10.out.port).1)).trans y1
  have y12' := (World.cell?_of_block (a := ⟨P, 12, none⟩) (hb11.block P (Array.getElem?_eq_some_iff.1 HP10.out.port).1)).trans y12
  have HIc := Lib.hid hI
  have HB11 := Lib.hid hb11
  clear hX z6 z0 y1 y12 hI hb11
  go_upto_region 18 with fail
  go_cut [135] from 121 to 135 (fun v wx => v = .bool bb ∧ wx = wc)
  case first =>
   by_cases hqn : qn = 0
   ·subst hqn
    have hq0 : g3.ep.q = [] := List.length_eq_zero_iff.1 hl0
    by_cases hm2 : m2 = 0
    ·subst hm2
     have hp0 : g3.pin = [] := List.length_eq_zero_iff.1 hpl
     have hb : bb = false := by rw [← hbb]; simp [hp0]
     clear hbb
     go_wp2_with fail
     refine hwt.mono ?_
     rintro e w0 ⟨rfl, hw0⟩
     rw [hw0]
     clear hw0
     go_wp2_with fail
     go_meet
     rw [hb]; exact ⟨rfl, rfl⟩
    ·have hp0 : g3.pin ≠ [] := fun e => hm2 (by rw [e] at hpl; exact hpl.symm)
     have hb : bb = true := by rw [← hbb]; simp [hq0, hp0]
     have q3 : decide ((0 : Int) < (m2 : Int)) = true := by simp; omega
     clear hbb
     go_wp2_with fail
     refine hwt.mono ?_
     rintro e w0 ⟨rfl, hw0⟩
     rw [hw0]
     clear hw0
     go_wp2_with fail
     go_meet
     rw [hb]; exact ⟨by simp; omega, rfl⟩
   ·have hq0 : g3.ep.q ≠ [] := fun e => hqn (by rw [e] at hl0; exact hl0.symm)
    have hb : bb = false := by rw [← hbb]; simp [hq0]
    have q3 : ((qn : Int) == 0) = false := by simp; omega
    clear hbb
    go_wp2_with fail
    refine hwt.mono ?_
    rintro e w0 ⟨rfl, hw0⟩
    rw [hw0]
    clear hw0
    go_wp2_with fail
    go_meet
    rw [hb]; exact ⟨rfl, rfl⟩
  case rest =>
  obtain ⟨rfl, hwx⟩ := hcut
  subst hwx
  clear hwt
  have hp11 := HP10.out.below HB11.out
  have HB12 := Lib.hid (HB10.out.trans hp11.2)
  have HP11 := Lib.hid hp11.1
  clear hp11
  go_upto_if 135 with fail
  go_cut [] from 7 to 164 (fun wx => DkAt L d P (.pointer (some pN)) K2.mx 1 (g3.off K2.mx) wx ∧ Kp L w wx)
  case first =>
   cases bb with
   | false =>
    have hoff : g3.off K2.mx = g3 := by unfold Gs.off; rw [if_neg (by simpa using hbb)]
    go_wp2_with fail
    go_meet
    rw [hoff]
    exact ⟨⟨_, _, _, _, _, _, _, _, rfl, HP11.out⟩, HB12.out⟩
   | true =>
    obtain ⟨hq0, hp0⟩ : g3.ep.q = [] ∧ g3.pin ≠ [] := by simpa using hbb
    have hoff : g3.off K2.mx = { g3 with pin := g3.pin.drop K2.mx, ep := { g3.ep with q := g3.pin.take K2.mx :: (if g3.pin.length = K2.mx then [[]] else []) } } := by unfold Gs.off; rw [if_pos ⟨hq0, hp0⟩]
    have h11 := HP11.out
    have hcut := cut_any P 1 _ B2 m2 e2 g3.pin wc h11.port rfl h11.r2 (by omega) K2.mx
    have hm2 : 0 < m2 := by rw [← hpl]; exact List.length_pos_iff.2 hp0
    obtain ⟨mm, hmm⟩ : ∃ mm, min K2.mx m2 = mm := ⟨_, rfl⟩
    rw [hmm] at hcut
    have htk : g3.pin.take K2.mx = g3.pin.take mm := by
     rw [← hmm, ← hpl]
     rcases Nat.le_total K2.mx g3.pin.length with h | h
     ·rw [Nat.min_eq_left h]
     ·rw [Nat.min_eq_right h, List.take_of_length_le h, List.take_of_length_le (Nat.le_refl _)]
    have hdr : g3.pin.drop K2.mx = g3.pin.drop mm := by
     rw [← hmm, ← hpl]
     rcases Nat.le_total K2.mx g3.pin.length with h | h
     ·rw [Nat.min_eq_left h]
     ·rw [Nat.min_eq_right h, List.drop_eq_nil_of_le h, List.drop_eq_nil_of_le (Nat.le_refl _)]
    have hml : (g3.pin.take mm).length = mm := by rw [List.length_take]; omega
    rw [htk, hdr] at hoff
    have HOFF := Lib.hid hoff
    have HMM := Lib.hid hmm
    have HML := Lib.hid hml
    clear htk hdr h11 hoff hmm hml hbb HIc HI HRW HP10 HB10 HP2 HP9
    go_wp2_with fail
    refine hcut.mono ?_
    rintro e w12 ⟨C1, d1, C2, d2, rfl, hR1, hC1, hP12, hR2, hC2, hm12⟩
    rw [HML.out] at hR1 ⊢
    obtain ⟨dl, hdl⟩ : ∃ dl, (g3.pin.drop mm).length = dl := ⟨_, rfl⟩
    rw [hdl] at hP12 hR2
    have HDL := Lib.hid hdl
    clear hdl
    have h11 := HP11.out
    obtain ⟨F, hB, h12, hb12⟩ := h11.put (X := fun i => i = P) (A2' := C2) (n2' := dl) (c2' := d2) (pin' := g3.pin.drop mm) hm12 (fun i _ e => e ▸ ⟨h11.far.1, fun e => h11.far.2.2.2.1 e.symm, h11.far.2.2.2.2.2⟩) hP12
     (h11.r1.keep fun a e => hm12.block _ (h11.r1.lt a e) (h11.f1 a e).2.1) ⟨hR2, fun x hx => h11.r2.2 x (List.mem_of_mem_drop hx)⟩ (fun _ _ => .inl rfl) (fun a e => .inr (hC2 a e)) (fun a b e e2 => by have := h11.r1.lt a e; have := hC2 b e2; omega)
    obtain ⟨K4, hK4⟩ : ∃ K4, K2.on w12.heap.size F hB = K4 := ⟨_, rfl⟩
    have hKI : K4.I = K2.I ∧ K4.mx = K2.mx := by rw [← hK4]; exact ⟨rfl, rfl⟩
    rw [hK4] at h12
    obtain ⟨Q4, qn4, qc4, hI4, ⟨hl4, _, _⟩, ⟨vs4, hrow4⟩, _⟩ := h12.ep.inn
    have hl4 : g3.ep.q.length = qn4 := hl4
    rw [hq0] at hl4
    obtain rfl : 0 = qn4 := hl4
    have hvs4 : vs4 = [] := List.length_eq_zero_iff.1 hrow4.1
    subst hvs4
    have hU1 : U8 w12 C1 mm d1 (g3.pin.take mm) := RowB.u8 ⟨hR1, fun x hx => h11.r2.2 x (List.mem_of_mem_take hx)⟩
    have hof := h12.offer (Q := Q4) (qn := 0) (qc := qc4) (vs := []) ⟨hI4, hrow4, fun v hv => nomatch hv⟩ (by omega) (by omega) hU1 (by have := HMM.out; omega)
    have hX := h12.port
    unfold ptC at hX
    have y12 := cell_of hX 12
    rw [hKI.1] at hof y12
    have HB12' := Lib.hid (HB12.out.trans hb12)
    have HC2 := Lib.hid hC2
    clear hcut y12' y1' hX h12 hb12 hR1 hP12 hR2 hm12 hI4 hU1 h11 hC1 hC2
    go_wp2_with fail
    refine hof.mono ?_
    rintro e w13 ⟨rfl, hB5, Q5, qc5, v5, h13, hQ5, hb13, hk13⟩
    obtain ⟨K5, hK5⟩ : ∃ K5, K4.on w13.heap.size K4.F hB5 = K5 := ⟨_, rfl⟩
    have hKI5 : K5.I = K2.I ∧ K5.mx = K2.mx := by rw [← hK5]; exact hKI
    rw [hK5] at h13 hQ5
    have hX := h13.port
    unfold ptC at hX
    have y12 := cell_of hX 12
    have y1 := cell_of hX 1
    rw [hKI5.1] at y12
    have hb13' := HB12'.out.trans hb13
    clear hof hX
    by_cases hfull : g3.pin.length = K2.mx
    ·rw [if_pos hfull] at HOFF
     have hmm := HMM.out
     have hml := HML.out
     have hdl : dl = 0 := by rw [← HDL.out, List.length_drop]; omega
     have hof2 := h13.offer (A := none) (n := 0) (c := 0) (ys := []) hQ5 (by omega) (by omega) ⟨rfl, (fun _ h => nomatch h), Nat.le_refl _, .inl ⟨rfl, rfl, rfl⟩⟩ (by omega)
     rw [hKI5.1] at hof2
     have q5 : ((mm : Int) == (K2.mx : Int)) = true := by simp; omega
     subst hdl
     have hst : ∀ c, { ep := { nxt := g3.ep.nxt, q := g3.ep.q ++ [g3.pin.take mm] ++ [[]], itg := g3.ep.itg, room := g3.ep.room, tk := g3.ep.tk, otg := g3.ep.otg }, t0 := g3.t0, t1 := g3.t1, pb := g3.pb, pin := g3.pin.drop mm, t := g3.t } = c → c = g3.off K2.mx := fun c e => by rw [← e, HOFF.out, hq0]; rfl
     have HST := Lib.hid hst
     clear hmm hml hst
     go_wp2_with fail
     refine hof2.mono ?_
     rintro e w14 ⟨rfl, hB6, Q6, qc6, v6, h14, hQ6, hb14, _⟩
     clear hof2
     go_wp2_with fail
     go_meet
     rw [← HST.out _ rfl]
     exact ⟨⟨K5.on _ K5.F hB6, S2, _, _, _, _, _, _, hKI5.2, h14⟩, hb13'.trans hb14⟩
    ·rw [if_neg hfull] at HOFF
     have hmm := HMM.out
     have hml := HML.out
     have hst : ∀ c, { ep := { nxt := g3.ep.nxt, q := g3.ep.q ++ [g3.pin.take mm], itg := g3.ep.itg, room := g3.ep.room, tk := g3.ep.tk, otg := g3.ep.otg }, t0 := g3.t0, t1 := g3.t1, pb := g3.pb, pin := g3.pin.drop mm, t := g3.t } = c → c = g3.off K2.mx := fun c e => by rw [← e, HOFF.out, hq0]; rfl
     have HST := Lib.hid hst
     have H13 := Lib.hid h13
     have hdl := HDL.out
     rw [List.length_drop] at hdl
     by_cases hd0 : dl = 0
     ·subst hd0
      have q5 : ((mm : Int) == (K2.mx : Int)) = false := by simp; omega
      clear hmm hml hst hQ5 h13 hdl
      go_wp2_with fail
      go_meet
      rw [← HST.out _ rfl]
      exact ⟨⟨_, _, _, _, _, _, _, _, hKI5.2, H13.out⟩, hb13'⟩
     ·have q5 : ((dl : Int) == 0) = false := by simp; omega
      clear hmm hml hst hQ5 h13 hdl
      go_wp2_with fail
      go_meet
      rw [← HST.out _ rfl]
      exact ⟨⟨_, _, _, _, _, _, _, _, hKI5.2, H13.out⟩, hb13'⟩
  case rest =>
  obtain ⟨⟨K6, S6, D1, f1, h1, D2, f2, h2, hmx6, h6⟩, hb6⟩ := hcut
  have hX := h6.port
  unfold ptC at hX
  have y14 := cell_of hX 14
  have y8 := cell_of hX 8
  have y9 := cell_of hX 9
  have H6 := Lib.hid h6
  have HMX6 := Lib.hid hmx6
  have hd6 := HDF.out
  have HD6 := Lib.hid hd6
  clear hX h6 hmx6 hd6 HP11 HP10 HP9 HP2 HI HIc HRW
  go_upto_region 24 with fail
  go_cut [192] from 169 to 192 (fun v wx => v = .bool false ∧ Below wc.heap.size wc wx)
  case first =>
   go_quiet (fail)
   go_wp2_with fail
   go_meet
   exact ⟨rfl, ⟨rfl, rfl, rfl, Nat.le_refl _, fun _ _ => rfl⟩⟩
  case rest =>
  obtain ⟨rfl, hbw⟩ := hcut
  go_wp2_with fail
  go_end0
  have h7 := H6.out.below hbw
  unfold TickEnd
  rw [HD6.out]
  exact ⟨rfl, ⟨_, _, _, _, _, _, _, _, HMX6.out, h7.1⟩, hb6.trans h7.2⟩
end Go.Proofs.Ythifcblajimppaa
