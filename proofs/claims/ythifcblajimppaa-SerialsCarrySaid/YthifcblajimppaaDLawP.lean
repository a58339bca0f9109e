/-
  What is proved here: what the law keeps between its deeds, in plain Lean.
  Conditions: none.
-/
import Derived.Test.YthifcblajimppaaDPlain
namespace Go.Proofs.Ythifcblajimppaa
open Go.Proofs Go.RowKit
structure Ls where
 g : Gs
 sent : List Int
 got : List Int
 out : List Int
 taken : List Int
 short : Bool
def lastS (mx : Nat) (q : List (List Int)) (short : Bool) : Bool := match q.getLast? with
 | none => short
 | some x => decide (x.length < mx)
theorem lastS_cons (mx : Nat) (x y : List Int) (r : List (List Int)) (a b : Bool) : lastS mx (x :: y :: r) a = lastS mx (y :: r) b := by
 unfold lastS
 rw [List.getLast?_cons_cons]
 rcases h : (y :: r).getLast? with _ | z
 ·simp at h
 ·rfl
structure LInv (mx n : Nat) (s : Ls) : Prop where
 inv : s.g.Inv mx
 sent : s.sent = s.got ++ (s.g.ep.q.flatten ++ s.g.pin)
 out : s.out = s.taken ++ s.g.pb
 last : lastS mx s.g.ep.q s.short = true ∨ s.g.pin ≠ []
 ls : s.sent.length ≤ n
 lo : s.out.length ≤ n
theorem LInv.mono {mx n m : Nat} {s : Ls} (h : LInv mx n s) (hm : n ≤ m) : LInv mx m s := ⟨h.inv, h.sent, h.out, h.last, Nat.le_trans h.ls hm, Nat.le_trans h.lo hm⟩
theorem tick_q (mx : Nat) (g : Gs) (hmx : 0 < mx) (short : Bool) (hl : lastS mx g.ep.q short = true ∨ g.pin ≠ []) :
  (g.tick mx).ep.q.flatten ++ (g.tick mx).pin = g.ep.q.flatten ++ g.pin ∧ (lastS mx (g.tick mx).ep.q short = true ∨ (g.tick mx).pin ≠ []) := by
 rw [Gs.tick_eq]
 dsimp only
 by_cases h : g.ep.q = [] ∧ g.pin ≠ []
 ·rw [if_pos h, if_pos h, h.1]
  by_cases hf : g.pin.length = mx
  ·rw [if_pos hf]
   refine ⟨by simp, .inl ?_⟩
   simp [lastS, hmx]
  ·rw [if_neg hf]
   refine ⟨by simp, ?_⟩
   rcases Nat.lt_or_ge g.pin.length mx with h1 | h1
   ·left
    simp [lastS, List.length_take]; omega
   ·right
    intro e
    have := congrArg List.length e
    simp at this
    omega
 ·rw [if_neg h, if_neg h]
  exact ⟨rfl, hl⟩
theorem LInv.tick {mx n : Nat} {s : Ls} (h : LInv mx n s) : LInv mx n { s with g := s.g.tick mx } := by
 have h1 := tick_q mx s.g (by have := h.inv.hmx; omega) s.short h.last
 refine ⟨h.inv.tick, by dsimp only; rw [h1.1]; exact h.sent, ?_, h1.2, h.ls, h.lo⟩
 dsimp only
 rw [Gs.tick_eq]
 dsimp only
 rw [h.inv.tk]
 simpa using h.out
def Ls.rd (mx : Nat) (s : Ls) : Ls := if s.g.ep.rd.1.1 == 1 then { s with g := s.g.rd, got := s.got ++ s.g.ep.rd.1.2, short := decide (s.g.ep.rd.1.2.length < mx) } else { s with g := s.g.rd }
theorem LInv.rd {mx n : Nat} {s : Ls} (h : LInv mx n s) : LInv mx n (s.rd mx) := by
 have hi := h.inv.rd
 have hs := h.sent
 have hl := h.last
 unfold Ls.rd
 rcases hq : s.g.ep.q with _ | ⟨x, r⟩
 ·have hr : s.g.ep.rd = ((2, []), { s.g.ep with nxt := 0 }) := by
   unfold EpS.rd
   split
   ·rfl
   ·rename_i h1; rw [hq] at h1; cases h1
  rw [if_neg (by rw [hr]; simp)]
  refine ⟨hi, ?_, h.out, ?_, h.ls, h.lo⟩
  ·show s.sent = s.got ++ (s.g.ep.rd.2.q.flatten ++ s.g.pin); rw [hr]; exact hs
  ·show lastS mx s.g.ep.rd.2.q s.short = true ∨ s.g.pin ≠ []; rw [hr]; exact hl
 ·have hr : s.g.ep.rd = ((1, x), { s.g.ep with nxt := 0, q := r, itg := !s.g.ep.itg }) := by unfold EpS.rd; rw [hq]
  rw [if_pos (by rw [hr]; simp)]
  rw [hq] at hs hl
  refine ⟨hi, ?_, h.out, ?_, h.ls, h.lo⟩
  ·show s.sent = (s.got ++ s.g.ep.rd.1.2) ++ (s.g.ep.rd.2.q.flatten ++ s.g.pin); rw [hr, hs]; simp
  ·show lastS mx s.g.ep.rd.2.q (decide (s.g.ep.rd.1.2.length < mx)) = true ∨ s.g.pin ≠ []
   rw [hr]
   refine hl.imp ?_ id
   dsimp only
   cases r with
   | nil => simp [lastS]
   | cons y r => exact fun h => (lastS_cons mx x y r s.short _).symm.trans h
def Ls.snd (s : Ls) (ys : List Int) : Ls := { s with g := s.g.snd ys, sent := s.sent ++ ys.take (s.g.fits ys) }
theorem LInv.snd {mx n : Nat} {s : Ls} (h : LInv mx n s) (ys : List Int) : LInv mx (n + ys.length) (s.snd ys) := by
 refine ⟨h.inv.snd ys, ?_, h.out, ?_, ?_, by have := h.lo; show s.out.length ≤ _; omega⟩
 ·show s.sent ++ _ = s.got ++ (s.g.ep.q.flatten ++ (s.g.pin ++ _)); rw [h.sent]; simp
 ·refine h.last.imp id fun hp => ?_
  show s.g.pin ++ _ ≠ []
  intro e
  exact hp (List.append_eq_nil_iff.1 e).1
 ·have := h.ls
  show (s.sent ++ ys.take (s.g.fits ys)).length ≤ _
  rw [List.length_append, List.length_take]; omega
def Ls.rcv (s : Ls) : Ls := { s with g := s.g.rcv, taken := s.taken ++ s.g.pb }
theorem LInv.rcv {mx n : Nat} {s : Ls} (h : LInv mx n s) : LInv mx n s.rcv ∧ s.rcv.taken = s.out :=
 ⟨⟨h.inv.rcv, h.sent, by show s.out = (s.taken ++ s.g.pb) ++ []; rw [List.append_nil]; exact h.out, h.last, h.ls, h.lo⟩, h.out.symm⟩
def Ls.wr (mx : Nat) (xs : List Int) (k : Nat) (s : Ls) : Ls := { s with g := (s.g.wr mx xs k).2, out := if (s.g.wr mx xs k).1 then s.out ++ xs else s.out }
theorem LInv.wr {mx n : Nat} {xs : List Int} (hx : xs.length ≤ mx) : ∀ (k : Nat) {s : Ls}, LInv mx n s → LInv mx (n + xs.length) (s.wr mx xs k) ∧ ((s.g.wr mx xs k).1 = false → (s.g.wr mx xs k).2.pb = s.g.pb)
 | 0, s, h => ⟨h.mono (by omega), fun _ => rfl⟩
 | k + 1, s, h => by
  have hm : 0 < mx := by have := h.inv.hmx; omega
  by_cases hr : s.g.ep.room = 0
  ·have hw : s.g.wr mx xs (k + 1) = ((s.g.try1 xs).tick mx).wr mx xs k := by rw [Gs.wr, if_pos hr]
   have hwt : (s.g.ep.wt xs).2 = { s.g.ep with nxt := 0 } := by unfold EpS.wt; rw [if_pos hr]
   have h1 : LInv mx n { s with g := s.g.try1 xs } := ⟨⟨⟨h.inv.hmx, h.inv.pb, h.inv.pin, by show (s.g.ep.wt xs).2.tk = none; rw [hwt]; exact h.inv.tk, h.inv.t, by show (s.g.ep.wt xs).2.room = 0 ∨ _; rw [hwt]; exact .inl hr, by show s.g.t0 = (s.g.ep.wt xs).2.itg; rw [hwt]; exact h.inv.t0, by show ∀ x ∈ (s.g.ep.wt xs).2.q, _; rw [hwt]; exact h.inv.q, by show (s.g.ep.wt xs).2.q.length ≤ 2; rw [hwt]; exact h.inv.ql⟩, by show s.g.t1 = (s.g.ep.wt xs).2.otg; rw [hwt]; exact h.inv.t1⟩, by show s.sent = s.got ++ ((s.g.ep.wt xs).2.q.flatten ++ s.g.pin); rw [hwt]; exact h.sent, h.out, by show lastS mx (s.g.ep.wt xs).2.q s.short = true ∨ _; rw [hwt]; exact h.last, h.ls, h.lo⟩
   have h2 := h1.tick
   obtain ⟨h3, h4⟩ := LInv.wr hx k h2
   have hpb : ((s.g.try1 xs).tick mx).pb = s.g.pb := by rw [Gs.tick_eq]; dsimp only; have := h1.inv.tk; dsimp only at this; rw [this]; simp [Gs.try1]
   unfold Ls.wr at h3 ⊢
   rw [hw]
   exact ⟨h3, fun e => (h4 e).trans hpb⟩
  ·have hw : s.g.wr mx xs (k + 1) = (true, { (s.g.try1 xs).tick mx with t1 := !((s.g.try1 xs).tick mx).t1 }) := by rw [Gs.wr, if_neg hr]
   have hwt : (s.g.ep.wt xs).2 = { s.g.ep with nxt := 0, room := s.g.ep.room - 1, tk := some xs, otg := !s.g.ep.otg } := by unfold EpS.wt; rw [if_neg hr]
   have hq := tick_q mx (s.g.try1 xs) hm s.short (by show lastS mx (s.g.ep.wt xs).2.q s.short = true ∨ _; rw [hwt]; exact h.last)
   refine ⟨?_, fun e => by rw [hw] at e; cases e⟩
   unfold Ls.wr
   rw [hw]
   refine ⟨Gs.try_yes h.inv hx hr, ?_, ?_, hq.2, by have := h.ls; dsimp only; omega, ?_⟩
   ·dsimp only
    rw [hq.1, h.sent]
    show _ = s.got ++ ((s.g.ep.wt xs).2.q.flatten ++ s.g.pin)
    rw [hwt]
   ·dsimp only
    rw [if_pos rfl, Gs.tick_eq]
    dsimp only
    rw [show (s.g.try1 xs).ep.tk = some xs by show (s.g.ep.wt xs).2.tk = _; rw [hwt], h.out]
    simp [Gs.try1]
   ·dsimp only
    rw [if_pos rfl, List.length_append]
    have := h.lo
    omega
theorem wr_full {mx : Nat} {xs : List Int} {k : Nat} {g : Gs} (h : g.Inv mx) (hf : (g.wr mx xs (k + 2)).1 = false) : 256 < g.pb.length + mx := by
 have hr : g.ep.room = 0 := by
  by_cases hr : g.ep.room = 0
  ·exact hr
  ·have : g.wr mx xs (k + 2) = (true, { (g.try1 xs).tick mx with t1 := !((g.try1 xs).tick mx).t1 }) := by rw [Gs.wr, if_neg hr]
   rw [this] at hf; cases hf
 have hw : g.wr mx xs (k + 2) = ((g.try1 xs).tick mx).wr mx xs (k + 1) := by rw [Gs.wr, if_pos hr]
 rw [hw] at hf
 have hr2 : ((g.try1 xs).tick mx).ep.room = 0 := by
  by_cases hr2 : ((g.try1 xs).tick mx).ep.room = 0
  ·exact hr2
  ·rw [Gs.wr, if_neg hr2] at hf; cases hf
 rw [Gs.tick_eq] at hr2
 dsimp only at hr2
 have htk : (g.try1 xs).ep.tk = none := by
  show (g.ep.wt xs).2.tk = none
  unfold EpS.wt; rw [if_pos hr]; exact h.tk
 rw [htk] at hr2
 split at hr2
 ·cases hr2
 ·rename_i hn
  simp [Gs.try1] at hn
  omega
theorem LInv.check {mx n : Nat} {s : Ls} (h : LInv mx n s) : s.got.length ≤ s.sent.length ∧ s.sent.take s.got.length = s.got ∧ s.out.length - s.taken.length ≤ 256 ∧ s.taken.length ≤ s.out.length ∧ s.sent.length - s.got.length ≤ 256 + 2 * mx := by
 have h1 := h.inv.pb
 have h2 := h.inv.pin
 have h3 := h.inv.q
 have h4 := h.inv.ql
 have hfl : s.g.ep.q.flatten.length ≤ 2 * mx := by
  rcases hq : s.g.ep.q with _ | ⟨x, _ | ⟨y, _ | ⟨z, r⟩⟩⟩
  ·simp
  ·rw [hq] at h3
   have := h3 x (by simp)
   simp; omega
  ·rw [hq] at h3
   have := h3 x (by simp)
   have := h3 y (by simp)
   simp; omega
  ·rw [hq] at h4
   simp at h4
 have hs := congrArg List.length h.sent
 have ho := congrArg List.length h.out
 simp only [List.length_append] at hs ho
 refine ⟨by omega, ?_, by omega, by omega, by omega⟩
 rw [h.sent]
 simp
def Ls.rnd (mx : Nat) (s : Ls) : Ls := Ls.rd mx { s with g := s.g.tick mx }
def Ls.msr (s : Ls) : Nat := s.g.ep.q.length + if s.g.pin.length = 0 then 0 else s.g.pin.length / 8 + 1
theorem LInv.rnd {mx n : Nat} {s : Ls} (h : LInv mx n s) : LInv mx n (s.rnd mx) := h.tick.rd
theorem rd_parts (mx : Nat) (s : Ls) : (s.rd mx).g.ep.q = s.g.ep.q.tail ∧ (s.rd mx).g.pin = s.g.pin := by
 have h1 : s.g.rd.ep.q = s.g.ep.q.tail := by
  show s.g.ep.rd.2.q = _
  unfold EpS.rd; split
  ·rename_i e; rw [e]; rfl
  ·rename_i e; rw [e]; rfl
 unfold Ls.rd; split <;> exact ⟨h1, rfl⟩
theorem msr_rnd {mx n : Nat} {s : Ls} (h : LInv mx n s) : (s.rnd mx).msr = 0 ∨ (s.rnd mx).msr + 1 ≤ s.msr := by
 obtain ⟨hq, hp⟩ := rd_parts mx { s with g := s.g.tick mx }
 have hm := h.inv.hmx
 unfold Ls.msr Ls.rnd
 rw [hq, hp]
 dsimp only
 rw [Gs.tick_eq]
 dsimp only
 by_cases hc : s.g.ep.q = [] ∧ s.g.pin ≠ []
 ·rw [if_pos hc, if_pos hc, hc.1]
  have hl : 0 < s.g.pin.length := List.length_pos_iff.2 hc.2
  rw [List.length_drop]
  by_cases hf : s.g.pin.length = mx
  ·rw [if_pos hf]
   simp only [List.tail_cons, List.length_singleton, List.length_nil]
   right
   rw [if_pos (by omega), if_neg (by omega)]
   omega
  ·rw [if_neg hf]
   simp only [List.tail_cons, List.length_nil]
   by_cases hg : s.g.pin.length - mx = 0
   ·rw [if_pos hg]; left; rfl
   ·rw [if_neg hg, if_neg (by omega)]
    right
    have : (s.g.pin.length - mx) / 8 + 1 ≤ s.g.pin.length / 8 := by omega
    omega
 ·rw [if_neg hc, if_neg hc]
  rcases hq0 : s.g.ep.q with _ | ⟨x, r⟩
  ·have hp0 : s.g.pin = [] := by
    by_cases e : s.g.pin = []
    ·exact e
    ·exact absurd ⟨hq0, e⟩ hc
   rw [hp0]
   left; rfl
  ·right
   simp only [List.tail_cons, List.length_cons]
   omega
theorem LInv.msr {mx n : Nat} {s : Ls} (h : LInv mx n s) : s.msr ≤ 40 := by
 have h1 := h.inv.pin
 have h2 := h.inv.ql
 unfold Ls.msr
 split <;> omega
theorem LInv.over {mx n : Nat} {s : Ls} (h : LInv mx n s) (h0 : s.msr = 0) : s.got = s.sent ∧ s.short = true := by
 unfold Ls.msr at h0
 have hq : s.g.ep.q = [] := List.length_eq_zero_iff.1 (by omega)
 have hp : s.g.pin = [] := by
  by_cases e : s.g.pin.length = 0
  ·exact List.length_eq_zero_iff.1 e
  ·rw [if_neg e] at h0; omega
 have h1 := h.sent
 have h2 := h.last
 rw [hq, hp] at h1
 rw [hq, hp] at h2
 refine ⟨by simpa using h1.symm, ?_⟩
 rcases h2 with h2 | h2
 ·simpa [lastS] using h2
 ·exact absurd rfl h2
end Go.Proofs.Ythifcblajimppaa
