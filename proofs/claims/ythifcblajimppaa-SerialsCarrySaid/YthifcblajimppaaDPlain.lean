/-
  What is proved here: the port's Send and Receive, and the law's read, on the desk's state.
  Conditions: the desk's state, and small numbers.
  What is proved here: what Tick, reads and writes make of the desk's numbers, in plain Lean.
  Conditions: none.
-/
import Derived.Test.YthifcblajimppaaDTick
namespace Go.Proofs.Ythifcblajimppaa
open Go.Proofs Go.RowKit
variable {L : Nat → Prop} {d P : Nat} {N : Value} {mx : Nat}
def Gs.fits (g : Gs) (ys : List Int) : Nat := min ys.length (256 - g.pin.length)
def Gs.snd (g : Gs) (ys : List Int) : Gs := { g with pin := g.pin ++ ys.take (g.fits ys) }
def Gs.rcv (g : Gs) : Gs := { g with pb := [] }
def Gs.rd (g : Gs) : Gs := { g with ep := g.ep.rd.2, t0 := g.ep.rd.2.itg }
theorem DkAt.below {ln : Int} {g : Gs} {w w' : World} (h : DkAt L d P N mx ln g w) (hb : Below w.heap.size w w') : DkAt L d P N mx ln g w' ∧ Kp L w w' := by
 obtain ⟨K, S, A1, n1, c1, A2, n2, c2, hmx, h⟩ := h
 have := h.below hb
 exact ⟨⟨K, S, A1, n1, c1, A2, n2, c2, hmx, this.1⟩, this.2⟩
theorem DkAt.narrow {L' : Nat → Prop} {ln : Int} {g : Gs} {w : World} (h : DkAt L d P N mx ln g w) (hs : ∀ i, L' i → L i) : DkAt L' d P N mx ln g w := by
 obtain ⟨K, S, A1, n1, c1, A2, n2, c2, hmx, h⟩ := h
 exact ⟨K, S, A1, n1, c1, A2, n2, c2, hmx, h.narrow hs⟩
theorem DkAt.desk {ln : Int} {g : Gs} {w : World} (h : DkAt L d P N mx ln g w) : ∃ s, w.heap[d]? = some (.cells (dkC P s g.t0 g.t1 false mx false) 32 (0, 0)) := by
 obtain ⟨K, S, A1, n1, c1, A2, n2, c2, hmx, h⟩ := h
 subst hmx
 exact ⟨_, h.desk⟩
def Arg (L : Nat → Prop) (w : World) (B : Option Addr) (n c : Nat) (ys : List Int) : Prop := U8 w B n c ys ∧ ∀ a, B = some a → n ≠ 0 → L a.block
theorem Arg.kp {w w' : World} {B : Option Addr} {n c : Nat} {ys : List Int} (h : Arg L w B n c ys) (hk : Kp L w w') : Arg L w' B n c ys := by
 refine ⟨u8_blk h.1 ?_, h.2⟩
 rcases Nat.eq_zero_or_pos n with h0 | h0
 ·exact .inl h0
 obtain ⟨⟨_, _, _, ⟨_, h1, _⟩ | ⟨a, e, h4⟩⟩, h2⟩ := h
 ·exact .inl h1
 ·refine .inr ⟨a, e, hk.block _ ?_ (h2 a e (by omega))⟩
  have := World.block_lt_of_cell? _ _ (h4 0 h0)
  rwa [add_block'] at this
theorem send_op (g : Gs) (w : World) (h : DkAt L d P N mx 1 g w) (hp : g.pin.length ≤ 256) (B : Option Addr) (nb cb : Nat) (ys : List Int) (hU : U8 w B nb cb ys) (hnb : nb ≤ 60000) :
  Calls Try.prog 8 #[.pointer (some ⟨P, 0, none⟩), .slice B nb cb] w fun e w' => e = .returned (.int .i64 (g.fits ys)) ∧ DkAt L d P N mx 1 (g.snd ys) w' ∧ Kp L w w' := by
 obtain ⟨K, S, A1, n1, c1, A2, n2, c2, hmx, h⟩ := h
 have hn2 : g.pin.length = n2 := h.r2.u8.1
 refine (send_port P _ A2 B n2 c2 nb cb g.pin ys w h.port rfl rfl h.r2 (by omega) hnb hU (fun a e => ⟨(h.f2 a e).2.1, h.r2.lt a e⟩)).mono ?_
 rintro e w' ⟨m, A', c', hm, rfl, hP, hR, hmv, hnew⟩
 have hfit : g.fits ys = m := by unfold Gs.fits; rw [hm, hn2]
 obtain ⟨F, hB, h1, h2⟩ := h.put (w' := w') (ln' := 1) (t' := g.t) (A1' := A1) (n1' := n1) (c1' := c1) (A2' := A') (n2' := n2 + m) (c2' := c') (pb' := g.pb) (pin' := g.pin ++ ys.take m) hmv (fun i _ hx => hx.elim (fun e => e ▸ ⟨h.far.1, fun e => h.far.2.2.2.1 e.symm, h.far.2.2.2.2.2⟩) (fun ⟨a, e, e2⟩ => e2 ▸ ⟨(h.f2 a e).1, (h.f2 a e).2.2⟩)) hP
  (h.r1.keep fun a e => hmv.block _ (h.r1.lt a e) (fun hx => hx.elim (h.f1 a e).2.1 (fun ⟨b, eb, e2⟩ => h.f12 a b e eb e2))) hR (fun _ _ => .inl rfl) hnew (fun a b e e2 => by
   rcases hnew b e2 with h3 | h3
   ·exact h.f12 a b e (h3 ▸ e2)
   ·have := h.r1.lt a e; omega)
 unfold Gs.snd
 rw [hfit]
 exact ⟨rfl, ⟨K.on _ F hB, S, A1, n1, c1, A', _, c', hmx, h1⟩, h2⟩
theorem recv_op (g : Gs) (w : World) (h : DkAt L d P N mx 1 g w) (hp : g.pb.length ≤ 256) :
  Calls Try.prog 11 #[.pointer (some ⟨P, 0, none⟩)] w fun e w' => ∃ A, e = .returned (.slice A g.pb.length g.pb.length) ∧ U8 w' A g.pb.length g.pb.length g.pb ∧ DkAt L d P N mx 1 g.rcv w' ∧ Kp L w w' := by
 obtain ⟨K, S, A1, n1, c1, A2, n2, c2, hmx, h⟩ := h
 have hn1 : g.pb.length = n1 := h.r1.u8.1
 refine (recv_ret P _ A1 n1 c1 g.pb w h.port rfl h.r1 (by omega)).mono ?_
 rintro e w' ⟨A, B, c', rfl, hU, hA, hP, hR, hB, hmv⟩
 obtain ⟨F, hB', h1, h2⟩ := h.put (w' := w') (ln' := 1) (t' := g.t) (A1' := B) (n1' := 0) (c1' := c') (A2' := A2) (n2' := n2) (c2' := c2) (pb' := []) (pin' := g.pin) hmv (fun i _ e => e ▸ ⟨h.far.1, fun e => h.far.2.2.2.1 e.symm, h.far.2.2.2.2.2⟩) hP hR
  (h.r2.keep fun a e => hmv.block _ (h.r2.lt a e) (h.f2 a e).2.1) (fun a e => .inr (hB a e)) (fun _ _ => .inl rfl) (fun a b e e2 => by have := h.r2.lt b e2; have := hB a e; omega)
 exact ⟨A, rfl, hU, ⟨K.on _ F hB', S, _, _, _, _, _, _, hmx, h1⟩, h2⟩
theorem read_op (g : Gs) (w : World) (h : DkAt L d P N mx 1 g w) (hq : ∀ x ∈ g.ep.q, x.length ≤ 64) (ht : g.t0 = g.ep.itg) :
  Calls Try.prog 10 #[.pointer (some ⟨d, 0, none⟩), .int .u8 1] w fun e w' => ∃ A n c, ∃ L' : Nat → Prop, e = .returned (.tuple #[.slice A n c, .bool (g.ep.rd.1.1 == 1)]) ∧ (∀ i, L i → L' i) ∧ Arg L' w' A n c g.ep.rd.1.2 ∧ DkAt L' d P N mx 1 g.rd w' ∧ Kp L w w' := by
 obtain ⟨K, S, A1, n1, c1, A2, n2, c2, hmx, h⟩ := h
 have hD := h.desk
 rw [ht] at hD
 refine (read_ret K d P g.t1 false K.mx false w S g.ep h.ep hq hD h.far.2.1).mono ?_
 rintro e w' ⟨S', A, n, c, rfl, hE, hm, hd, hne, hnd, hD'⟩
 have hdl := (Array.getElem?_eq_some_iff.1 h.desk).1
 have hPl := (Array.getElem?_eq_some_iff.1 h.port).1
 have hk : ∀ i, i < w.heap.size → K.F i → i ≠ d → w'.heap[i]? = w.heap[i]? := fun i hi hf hn => hm.block i hi (fun hx => hx.elim (h.noS hf) hn)
 have h1 : PtAt L d P K S' g.rd 1 N A1 n1 c1 A2 n2 c2 w' := ⟨hE, (hk P hPl h.far.1 (fun e => h.far.2.2.2.1 e.symm)).trans h.port, hD', h.r1.keep fun a e => hk _ (h.r1.lt a e) (h.f1 a e).1 (h.f1 a e).2.2.1, h.r2.keep fun a e => hk _ (h.r2.lt a e) (h.f2 a e).1 (h.f2 a e).2.2.1, h.far, h.f1, h.f2, h.f12, h.mo⟩
 have hkp : Kp L w w' := ⟨hm.os, hm.tape, hm.output, hm.size, fun i hi hl => hk i hi (h.far.2.2.1 i hl) (fun e => h.far.2.2.2.2.1 (e ▸ hl))⟩
 rcases Nat.eq_zero_or_pos n with h0 | h0
 ·exact ⟨A, n, c, L, rfl, fun _ h => h, ⟨hd.1, fun _ _ hn => absurd h0 hn⟩, ⟨K, S', A1, n1, c1, A2, n2, c2, hmx, h1⟩, hkp⟩
 ·obtain ⟨a, rfl, hge⟩ : ∃ a, A = some a ∧ w.heap.size ≤ a.block := hne.resolve_left (by omega)
  have hlt : a.block < w'.heap.size := hd.lt h0
  have hns : ¬ S' a.block := by
   obtain ⟨_, h3 | ⟨a', e, h3⟩⟩ := hd
   ·omega
   ·cases e; exact h3
  have hB := h.ep.base
  obtain ⟨F, hB', h2⟩ := h1.widen a.block ⟨by omega, hlt⟩ hns ⟨by omega, by omega, fun b e => by have := h.r1.lt b e; omega, fun b e => by have := h.r2.lt b e; omega⟩
  exact ⟨some a, n, c, _, rfl, fun _ h => .inl h, ⟨hd.1, fun b e _ => by cases e; exact .inr rfl⟩, ⟨K.on _ F hB', S', A1, n1, c1, A2, n2, c2, hmx, h2⟩, hkp⟩
end Go.Proofs.Ythifcblajimppaa

namespace Go.Proofs.Ythifcblajimppaa
open Go.Proofs Go.RowKit
structure Gs.Pre (mx : Nat) (g : Gs) : Prop where
 hmx : 8 ≤ mx ∧ mx ≤ 64
 pb : g.pb.length ≤ 256
 pin : g.pin.length ≤ 256
 tk : g.ep.tk = none
 t : 0 ≤ g.t ∧ g.t < 8
 room : g.ep.room = 0 ∨ (g.ep.room = 1 ∧ g.pb.length + mx ≤ 256)
 t0 : g.t0 = g.ep.itg
 q : ∀ x ∈ g.ep.q, x.length ≤ mx
 ql : g.ep.q.length ≤ 2
structure Gs.Inv (mx : Nat) (g : Gs) : Prop extends Gs.Pre mx g where
 t1 : g.t1 = g.ep.otg
theorem Gs.tick_eq (mx : Nat) (g : Gs) : g.tick mx = { ep := { g.ep with q := if g.ep.q = [] ∧ g.pin ≠ [] then g.pin.take mx :: (if g.pin.length = mx then [[]] else []) else g.ep.q, room := if (g.pb ++ g.ep.tk.getD []).length + mx ≤ 256 then 1 else 0, tk := none }, t0 := g.t0, t1 := g.t1, pb := g.pb ++ g.ep.tk.getD [], pin := if g.ep.q = [] ∧ g.pin ≠ [] then g.pin.drop mx else g.pin, t := (g.t + 1) % 8 } := by
 unfold Gs.tick Gs.off Gs.rm Gs.got Gs.clk
 dsimp only
 by_cases h : g.ep.q = [] ∧ g.pin ≠ []
 ·rw [if_pos h, if_pos h, if_pos h]
 ·rw [if_neg h, if_neg h, if_neg h]
theorem Gs.tick_pre {mx : Nat} {g : Gs} (hmx : 8 ≤ mx ∧ mx ≤ 64) (hpb : g.pb.length ≤ 256) (hpin : g.pin.length ≤ 256) (htk : ∀ xs, g.ep.tk = some xs → g.pb.length + xs.length ≤ 256) (ht0 : g.t0 = g.ep.itg) (hq : ∀ x ∈ g.ep.q, x.length ≤ mx) (hql : g.ep.q.length ≤ 2) : (g.tick mx).Pre mx ∧ (g.tick mx).t1 = g.t1 ∧ (g.tick mx).ep.otg = g.ep.otg := by
 rw [Gs.tick_eq]
 have hpl : (g.pb ++ g.ep.tk.getD []).length ≤ 256 := by
  rcases hk : g.ep.tk with _ | xs
  ·simpa using hpb
  ·have := htk xs hk; simpa using this
 refine ⟨⟨hmx, hpl, ?_, rfl, ?_, ?_, ht0, ?_, ?_⟩, rfl, rfl⟩
 ·dsimp only
  split
  ·rw [List.length_drop]; omega
  ·exact hpin
 ·dsimp only; omega
 ·dsimp only
  split
  ·exact .inr ⟨rfl, by assumption⟩
  ·exact .inl rfl
 ·dsimp only
  split
  ·intro x hx
   rcases List.mem_cons.1 hx with rfl | hx
   ·rw [List.length_take]; omega
   ·split at hx
    ·obtain rfl := List.mem_singleton.1 hx; simp
    ·exact nomatch hx
  ·exact hq
 ·dsimp only
  split
  ·split <;> simp
  ·exact hql
def Gs.try1 (g : Gs) (xs : List Int) : Gs := { g with ep := (g.ep.wt xs).2 }
def Gs.wr (mx : Nat) (xs : List Int) : Nat → Gs → Bool × Gs
 | 0, g => (false, g)
 | k + 1, g => if g.ep.room = 0 then Gs.wr mx xs k ((g.try1 xs).tick mx) else (true, { (g.try1 xs).tick mx with t1 := !((g.try1 xs).tick mx).t1 })
theorem Gs.try_ok {mx : Nat} {g : Gs} {xs : List Int} (h : g.Inv mx) (hx : xs.length ≤ mx) : (g.try1 xs).Ok mx ∧ ((g.try1 xs).tick mx).Pre mx ∧ ((g.try1 xs).tick mx).t1 = g.t1 ∧ ((g.try1 xs).tick mx).ep.otg = (g.ep.wt xs).2.otg := by
 have hm := h.hmx
 have hr := h.room
 have htk : ∀ ys, (g.ep.wt xs).2.tk = some ys → g.pb.length + ys.length ≤ 256 := by
  intro ys hy
  unfold EpS.wt at hy
  split at hy
  ·have := h.tk; dsimp only at hy; rw [this] at hy; cases hy
  ·rcases hr with h0 | ⟨_, h1⟩
   ·contradiction
   ·cases hy; omega
 have hqq : (g.ep.wt xs).2.q = g.ep.q ∧ (g.ep.wt xs).2.itg = g.ep.itg := by unfold EpS.wt; split <;> exact ⟨rfl, rfl⟩
 refine ⟨⟨by omega, h.pb, h.pin, htk, h.t⟩, Gs.tick_pre (g := g.try1 xs) hm h.pb h.pin htk (h.t0.trans hqq.2.symm) (fun x hx => h.q x (by rw [← hqq.1]; exact hx)) (by have := h.ql; rw [← hqq.1] at this; exact this)⟩
theorem Gs.try_no {mx : Nat} {g : Gs} {xs : List Int} (h : g.Inv mx) (hx : xs.length ≤ mx) (hr : g.ep.room = 0) : ((g.try1 xs).tick mx).Inv mx := by
 obtain ⟨_, h1, h2, h3⟩ := Gs.try_ok h hx
 refine ⟨h1, ?_⟩
 rw [h2, h3, h.t1]
 unfold EpS.wt
 rw [if_pos hr]
theorem Gs.try_yes {mx : Nat} {g : Gs} {xs : List Int} (h : g.Inv mx) (hx : xs.length ≤ mx) (hr : ¬ g.ep.room = 0) : ({ (g.try1 xs).tick mx with t1 := !((g.try1 xs).tick mx).t1 } : Gs).Inv mx := by
 obtain ⟨_, h1, h2, h3⟩ := Gs.try_ok h hx
 refine ⟨⟨h1.hmx, h1.pb, h1.pin, h1.tk, h1.t, h1.room, h1.t0, h1.q, h1.ql⟩, ?_⟩
 dsimp only
 rw [h2, h3, h.t1]
 unfold EpS.wt
 rw [if_neg hr]
theorem Gs.Inv.ok {mx : Nat} {g : Gs} (h : g.Inv mx) : g.Ok mx := ⟨by have := h.hmx; omega, h.pb, h.pin, (fun xs hx => by rw [h.tk] at hx; cases hx), h.t⟩
theorem Gs.Inv.tick {mx : Nat} {g : Gs} (h : g.Inv mx) : (g.tick mx).Inv mx := by
 obtain ⟨h1, h2, h3⟩ := Gs.tick_pre h.hmx h.pb h.pin (fun xs hx => by rw [h.tk] at hx; cases hx) h.t0 h.q h.ql
 exact ⟨h1, by rw [h2, h3]; exact h.t1⟩
theorem Gs.Inv.rd {mx : Nat} {g : Gs} (h : g.Inv mx) : g.rd.Inv mx := by
 have hqq : g.ep.rd.2.tk = g.ep.tk ∧ g.ep.rd.2.room = g.ep.room ∧ g.ep.rd.2.otg = g.ep.otg ∧ g.ep.rd.2.q = g.ep.q.tail := by unfold EpS.rd; split <;> simp_all
 refine ⟨⟨h.hmx, h.pb, h.pin, hqq.1.trans h.tk, h.t, ?_, rfl, ?_, ?_⟩, ?_⟩
 ·show g.ep.rd.2.room = 0 ∨ (g.ep.rd.2.room = 1 ∧ _); rw [hqq.2.1]; exact h.room
 ·show ∀ x ∈ g.ep.rd.2.q, _; rw [hqq.2.2.2]; exact fun x hx => h.q x (List.mem_of_mem_tail hx)
 ·show g.ep.rd.2.q.length ≤ 2; rw [hqq.2.2.2, List.length_tail]; have := h.ql; omega
 ·show g.t1 = g.ep.rd.2.otg; rw [hqq.2.2.1]; exact h.t1
theorem Gs.Inv.snd {mx : Nat} {g : Gs} (h : g.Inv mx) (ys : List Int) : (g.snd ys).Inv mx :=
 ⟨⟨h.hmx, h.pb, by unfold Gs.snd Gs.fits; simp only [List.length_append, List.length_take]; have := h.pin; omega, h.tk, h.t, h.room, h.t0, h.q, h.ql⟩, h.t1⟩
theorem Gs.Inv.rcv {mx : Nat} {g : Gs} (h : g.Inv mx) : g.rcv.Inv mx :=
 ⟨⟨h.hmx, by simp [Gs.rcv], h.pin, h.tk, h.t, h.room.imp id (fun h' => ⟨h'.1, by have := h'.2; simp [Gs.rcv]; omega⟩), h.t0, h.q, h.ql⟩, h.t1⟩
end Go.Proofs.Ythifcblajimppaa
