/-
  What is proved here: what the law's run returns for isochronous works that send.
  Conditions: what the work's and the device's cells hold.
-/
import Derived.Test.YtiajboiobjfcoaaGreatDoorIPlain
import Derived.Test.YtiajboiobjfcoaaGreatDoorIRun
import Derived.Test.YtiajboiobjfcoaaGreatDoorIPans
import Derived.Test.YtiajboiobjfcoaaGreatDoorITck
import Derived.Test.YtiajboiobjfcoaaGreatDoorIWire
namespace Go.Proofs.YtiajboiobjfcoaaGreatDoor
open Go.Proofs Go.RowKit
theorem U8.on {w w' : World} {X : Nat → Prop} {A : Option Addr} {n c : Nat} {xs : List Int} (h : U8 w A n c xs) (hf : n = 0 ∨ ∃ a, A = some a ∧ X a.block) (hk : ∀ i, X i → w'.heap[i]? = w.heap[i]?) : U8 w' A n c xs := by
 obtain ⟨h1, h2, h3, h4⟩ := h
 refine ⟨h1, h2, h3, h4.imp id ?_⟩
 rintro ⟨a, rfl, h5⟩
 refine ⟨a, rfl, fun j hj => ?_⟩
 rcases hf with h0 | ⟨a', e, hl⟩
 ·omega
 ·cases e
  exact (World.cell?_of_block (w := w) (w' := w') (a := a.add j) (by rw [add_block']; exact hk _ hl)).trans (h5 j hj)
theorem Sls.on {w w' : World} {X : Nat → Prop} {A : Option Addr} {n c : Nat} {vs : List Value} (h : Sls w A n c vs) (hf : n = 0 ∨ ∃ a, A = some a ∧ X a.block) (hk : ∀ i, X i → w'.heap[i]? = w.heap[i]?) : Sls w' A n c vs := by
 obtain ⟨h1, h2, h3⟩ := h
 refine ⟨h1, h2, h3.imp id ?_⟩
 rintro ⟨a, rfl, h4⟩
 refine ⟨a, rfl, fun j v hj => ?_⟩
 rcases hf with h0 | ⟨a', e, hl⟩
 ·have := (List.getElem?_eq_some_iff.1 hj).1; omega
 ·cases e
  exact (World.cell?_of_block (w := w) (w' := w') (a := a.add j) (by rw [add_block']; exact hk _ hl)).trans (h4 j v hj)
def PkOn (X : Nat → Prop) (w : World) (A : Option Addr) (n c : Nat) (bs : List (List Int)) : Prop :=
 ∃ vs, Sls w A n c vs ∧ B8s w vs bs ∧ (n = 0 ∨ ∃ a, A = some a ∧ X a.block) ∧ (∀ (j : Nat) A n c, vs[j]? = some (.slice A n c) → n = 0 ∨ ∃ a, A = some a ∧ X a.block)
theorem PkOn.on {w w' : World} {X : Nat → Prop} {A : Option Addr} {n c : Nat} {bs : List (List Int)} (h : PkOn X w A n c bs) (hk : ∀ i, X i → w'.heap[i]? = w.heap[i]?) : PkOn X w' A n c bs := by
 obtain ⟨vs, h1, h2, h3, h4⟩ := h
 refine ⟨vs, h1.on h3 hk, ⟨h2.1, fun j v b hj hb => ?_⟩, h3, h4⟩
 obtain ⟨A, n, c, e, hu, hn⟩ := h2.2 j v b hj hb
 exact ⟨A, n, c, e, hu.on (h4 j A n c (by rw [hj, e])) hk, hn⟩
theorem PkOn.wide {w : World} {X Y : Nat → Prop} {A : Option Addr} {n c : Nat} {bs : List (List Int)} (h : PkOn X w A n c bs) (hk : ∀ i, X i → Y i) : PkOn Y w A n c bs := by
 obtain ⟨vs, h1, h2, h3, h4⟩ := h
 exact ⟨vs, h1, h2, h3.imp id fun ⟨a, e, h⟩ => ⟨a, e, hk _ h⟩, fun j A n c hj => (h4 j A n c hj).imp id fun ⟨a, e, h⟩ => ⟨a, e, hk _ h⟩⟩
def isoV (inn : Bool) (PA : Option Addr) (pn pc : Nat) (m0 : Int) (many : Nat) (XA : Option Addr) (xn xc : Nat) (IA : Option Addr) (im ic : Nat) (out : Int) : Array Value :=
 #[.bool true, .int .u8 5, .int .u8 2, .bool inn, .int .u8 1, .int .i64 8, .int .i64 8, .int .u8 1, .int .u8 0, .int .u8 1, .bool false, .bool false, .int .u8 0, .int .u8 0, .int .u8 0, .int .u16 0, .int .u16 0, .int .u16 0, .slice none 0 0, .int .i64 0, .bool false, .int .i64 0, .slice none 0 0, .int .i64 0, .int .i64 0, .bool false, .int .u8 0, .int .i64 0, .bool false, .slice none 0 0, .bool false, .int .i64 0, .slice none 0 0, .slice none 0 0, .int .i64 0, .int .i64 0, .bool false, .int .i64 0, .bool inn, .int .u8 2, .int .i64 8, .slice PA pn pc, .int .i64 m0, .int .i64 (many : Int), .slice XA xn xc, .slice IA im ic, .int .i64 out]
def Far (S : Nat → Prop) (b0 : Nat) (A : Option Addr) (n : Nat) : Prop := n = 0 ∨ ∃ a, A = some a ∧ ¬ S a.block ∧ (a.block < b0 ∨ b0 + 1 < a.block)
theorem Far.mv {w w' : World} {S S' : Nat → Prop} {b0 n : Nat} {A : Option Addr} (h : Far S b0 A n) (hm : Mv S w S' w') (hl : n = 0 ∨ ∀ a, A = some a → a.block < w.heap.size) : Far S' b0 A n :=
 h.elim .inl fun ⟨a, e, h1, h2⟩ => hl.elim .inl fun hl => .inr ⟨a, e, hm.out (hl a e) h1, h2⟩
def PcF (w : World) (S : Nat → Prop) (b0 : Nat) (A : Option Addr) (n c : Nat) (vs : List Value) : Prop := Pcs w A n c vs ∧ Far S b0 A n
theorem Pcs.lt {w : World} {A : Option Addr} {n c : Nat} {vs : List Value} (h : Pcs w A n c vs) : n = 0 ∨ ∀ a, A = some a → a.block < w.heap.size := by
 rcases Nat.eq_zero_or_pos n with h0 | h0
 ·exact .inl h0
 obtain ⟨a, rfl, hc⟩ := h.cells h0
 refine .inr fun a' e => ?_
 cases e
 have hl : 0 < vs.length := by rw [h.1]; omega
 have := World.block_lt_of_cell? _ _ (hc 0 _ (List.getElem?_eq_getElem hl))
 rwa [show (a.add 0) = a by simp [Addr.add]] at this
theorem Pcs.to {w w' : World} {A : Option Addr} {n c : Nat} {vs : List Value} (h : Pcs w A n c vs) (hk : n = 0 ∨ ∀ a, A = some a → w'.heap[a.block]? = w.heap[a.block]?) : Pcs w' A n c vs := by
 refine ⟨h.1, h.2.1, h.2.2.imp id ?_⟩
 rintro ⟨a, rfl, hc⟩
 refine ⟨a, rfl, fun j v hj => ?_⟩
 rcases hk with h0 | hk
 ·have := (List.getElem?_eq_some_iff.1 hj).1; have := h.1; omega
 ·exact (World.cell?_of_block (w := w) (w' := w') (a := a.add j) (by rw [add_block']; exact hk a rfl)).trans (hc j v hj)
theorem PcF.mv {w w' : World} {S S' : Nat → Prop} {b0 n c : Nat} {A : Option Addr} {vs : List Value} (h : PcF w S b0 A n c vs) (hm : Mv S w S' w') : PcF w' S' b0 A n c vs := by
 refine ⟨h.1.to ?_, h.2.mv hm h.1.lt⟩
 rcases h.2 with h0 | ⟨a, rfl, h1, _⟩
 ·exact .inl h0
 ·rcases h.1.lt with h0 | hl
  ·exact .inl h0
  ·exact .inr fun a' e => by cases e; exact hm.block _ (hl a rfl) h1
theorem PcF.wr {w w' : World} {S : Nat → Prop} {b0 n c g : Nat} {A : Option Addr} {vs : List Value} (h : PcF w S b0 A n c vs) (hW : Wrote g w w') (h0 : b0 ≤ g) (h1 : g ≤ b0 + 1) : PcF w' S b0 A n c vs :=
 ⟨h.1.to (h.2.elim .inl fun ⟨a, e, _, h2⟩ => .inr fun a' e' => by rw [e] at e'; cases e'; exact hW.other _ (by omega)), h.2⟩
def PlX (A : Option Addr) (n : Nat) : Prop := n = 0 ∨ ∃ g, A = some ⟨g, 0, none⟩
def noPieces : Nat → List Value
 | 0 => []
 | k + 1 => noPieces k ++ [.int .i64 0, .slice none 0 0]
def OutWk (bs : List (List Int)) (b0 : Nat) (k : Nat) (w : World) (S : Nat → Prop) (V : Array Value) : Prop :=
 ∃ PA pc XA xc, V = isoV false PA bs.length pc 0 bs.length XA k xc none 0 0 (sumTo bs k : Int) ∧ PkOn (fun i => i < b0 ∧ i < w.heap.size ∧ ¬ S i) w PA bs.length pc bs ∧ PcF w S b0 XA k xc (noPieces k) ∧ PlX XA k
theorem OutWk.mv {bs : List (List Int)} {b0 k : Nat} {w w' : World} {S S' : Nat → Prop} {V : Array Value} (h : OutWk bs b0 k w S V) (hm : Mv S w S' w') : OutWk bs b0 k w' S' V := by
 obtain ⟨PA, pc, XA, xc, e, hp, hx, hpx⟩ := h
 exact ⟨PA, pc, XA, xc, e, (hp.on fun i hi => hm.block i hi.2.1 hi.2.2).wide fun i hi => ⟨hi.1, Nat.lt_of_lt_of_le hi.2.1 hm.size, hm.out hi.2.1 hi.2.2⟩, hx.mv hm, hpx⟩
theorem OutWk.bx {bs : List (List Int)} {b0 k g : Nat} {w w' : World} {S : Nat → Prop} {V : Array Value} (h : OutWk bs b0 k w S V) (hW : Wrote g w w') (h0 : b0 ≤ g) (h1 : g ≤ b0 + 1) : OutWk bs b0 k w' S V := by
 obtain ⟨PA, pc, XA, xc, e, hp, hx, hpx⟩ := h
 exact ⟨PA, pc, XA, xc, e, (hp.on fun i hi => hW.other i (by omega)).wide fun i hi => ⟨hi.1, by rw [hW.size]; exact hi.2.1, hi.2.2⟩, hx.wr hW h0 h1, hpx⟩
theorem slz_of {A : Option Addr} {n c : Nat} (h : Pl A n) (hn : n ≤ 65536) : SlZ (.slice A n c) n A.isNone := by
 refine ⟨by omega, c, ?_⟩
 rcases Nat.eq_zero_or_pos n with h0 | h0
 ·subst h0; exact .inr ⟨rfl, A, rfl, rfl⟩
 ·rcases h with h | ⟨g, o, rfl⟩
  ·omega
  ·exact .inl ⟨h0, g, o, rfl⟩
section
variable (K : GrK) (hiso : K.iso = true) (G B0 B1 : Nat) (hG : B0 ≤ B1) (hGB : G < B1) (W : Wire B0) (hWo : ∀ i, W.own i → B0 ≤ i ∧ i < B1 ∧ i ≠ G)
theorem iso_ans (hl : ∀ b ∈ K.offs, b.length ≤ 8) (p : Pk) (s : (isoBus K hiso G B0 B1 hG hGB W hWo).σ) (q : Pk) (h : ((isoBus K hiso G B0 B1 hG hGB W hWo).hr s p).1 = some q) : CkOk q ∧ q.data.length ≤ 1024 := by
  obtain ⟨t, g⟩ := s
  have h' : (g.hearIso K p).1 = some q := h
  have hb : (K.offs[g.nx]?.getD []).length ≤ 8 := by
    cases h : K.offs[g.nx]? with
    | none => simp
    | some b => have := hl b (List.mem_of_getElem? h); simpa using this
  unfold GrS.hearIso GrS.giveIso at h'
  repeat' split at h'
  all_goals
    first
    | cases h'
      done
    | (simp at h'
       subst h'
       exact ⟨ck_data false _ (by omega), by show (K.offs[g.nx]?.getD []).length ≤ 1024; omega⟩)
theorem hear_cnt (g : GrS) (p : Pk) (hp : p.pid = 9 ∨ p.pid = 1) : (g.hearIso K p).2.at_ = g.at_ ∧ (g.hearIso K p).2.nx ≤ g.nx + 1 ∧ (g.hearIso K p).2.many = g.many ∧ (g.hearIso K p).2.taken = g.taken := by
 unfold GrS.hearIso GrS.giveIso
 rcases hp with hp | hp
 ·rw [if_pos hp]
  split <;> simp
 ·rw [if_neg (by omega), if_pos hp]
  simp
theorem speak_gr (p : Pk) (dev : Bool) (t : W.τ) (g : GrS) : ((isoBus K hiso G B0 B1 hG hGB W hWo).speak dev (t, g) p).2.2 = g ∨ ((isoBus K hiso G B0 B1 hG hGB W hWo).speak dev (t, g) p).2.2 = (g.hearIso K p).2 := by
 unfold Bus.speak
 split
 ·have e : (isoBus K hiso G B0 B1 hG hGB W hWo).hr ((isoBus K hiso G B0 B1 hG hGB W hWo).nx (t, g)).2 p = ((g.hearIso K p).1, ((W.nx t).2, (g.hearIso K p).2)) := rfl
  rw [e]
  cases h : (g.hearIso K p).1 with
  | none => exact .inr rfl
  | some q =>
   refine .inr ?_
   dsimp only
   split <;> rfl
 ·exact .inl rfl
theorem iso_room (p : Pk) (hp : p.pid = 9 ∨ p.pid = 1) (dev : Bool) (s : W.τ × GrS) (h : s.2.at_ ≤ 1000 ∧ s.2.nx ≤ 1000 ∧ s.2.many ≤ 1000 ∧ s.2.taken.length ≤ 1000) :
  GrS.room ((isoBus K hiso G B0 B1 hG hGB W hWo).speak dev s p).2.2 := by
 obtain ⟨t, g⟩ := s
 unfold GrS.room
 have hc := hear_cnt K g p hp
 dsimp only at h
 rcases speak_gr K hiso G B0 B1 hG hGB W hWo p dev t g with e | e
 ·rw [e]; omega
 ·rw [e]
  refine ⟨by omega, by omega, by omega, by rw [hc.2.2.2]; omega⟩
theorem out_small (bs : List (List Int)) (hbl : ∀ b ∈ bs, b.length ≤ 8) (hlen : bs.length ≤ 30) (s0 : W.τ × GrS) (hs0 : s0.2.at_ = 0 ∧ s0.2.nx = 0 ∧ s0.2.many = 0 ∧ s0.2.taken = []) (k : Nat) (hk : k ≤ bs.length) :
  (outK W bs s0 k).2.at_ ≤ 1000 ∧ (outK W bs s0 k).2.nx ≤ 1000 ∧ (outK W bs s0 k).2.many ≤ 1000 ∧ (outK W bs s0 k).2.taken.length ≤ 1000 := by
 obtain ⟨h1, h2, h3, h4⟩ := outK_facts W bs s0 k
 have := sumTo_le bs hbl k
 obtain ⟨a1, a2, a3, a4⟩ := hs0
 rw [a4] at h4
 simp at h4
 omega
set_option maxHeartbeats 1000000 in
theorem out_runs (hin : K.inn = false) (he : K.endp = 2) (hoff : ∀ b ∈ K.offs, b.length ≤ 8) (bs : List (List Int)) (hbl : ∀ b ∈ bs, b.length ≤ 8) (hlen : bs.length ≤ 30) (n b0 : Nat) (hn : n ≤ bs.length) (s0 : W.τ × GrS)
  (hs0 : s0.2.at_ = 0 ∧ s0.2.nx = 0 ∧ s0.2.many = 0 ∧ s0.2.taken = []) :
  Runs (isoBus K hiso G B0 B1 hG hGB W hWo) n b0 (outK W bs s0) (fun _ => 1) (fun _ => []) (OutWk bs b0) where
 sz := by
  rintro k wr S V ⟨PA, pc, XA, xc, rfl, _⟩
  exact ⟨rfl, rfl⟩
 mv := fun h hm => h.mv hm
 bx := fun h hW h0 h1 => h.bx hW h0 h1
 next := by
  rintro k wr S V hk ⟨PA, pc, XA, xc, rfl, ⟨vs, hA, hb, hf1, hf2⟩, hx, _⟩ hI
  have hbk : ∃ b, bs[k]? = some b := ⟨_, List.getElem?_eq_getElem (by omega)⟩
  obtain ⟨b, hbk⟩ := hbk
  have hb8 := hbl b (List.mem_of_getElem? hbk)
  unfold isoV
  refine (pipe_next 5 2 false 8 8 1 0 1 false false _ _ _ _ _ _ _ _ _ _ _ _ _ _ _ _ _ _ _ _ _ _ _ _ _ _ _ _ _ _ _ _ _ _ _ 2 1 false true 0 b wr (fun w' hbw => ?_)).mono ?_
  ·refine (pn_out 2 8 0 bs.length k xc pc PA XA vs bs w' (by omega) (hA.below hbw) (hb.below hbw)).mono ?_
   rintro e w2 ⟨b', g, c', hb', rfl, hf, hg, hbel⟩
   rw [hbk] at hb'
   cases hb'
   exact ⟨hbel, _, _, _, rfl, ⟨hf.u8, .inr ⟨_, rfl, hg⟩⟩, .inr ⟨_, _, rfl⟩⟩
  ·rintro e w1 ⟨hb1, A, m, c, rfl, hN, hPl⟩
   have hm8 : m ≤ 8 := by rw [← hN.1.1]; exact hb8
   refine ⟨hb1, _, rfl, rfl, rfl, fun w2 hb2 => ?_⟩
   have hI2 := Bus.below hI (hb1.trans (hb2.mono hb1.size))
   have hd2 : D8 w2 S A m c b := (hN.d8 (fun i hi => (isoBus K hiso G B0 B1 hG hGB W hWo).lt hI i hi)).below hb2
   have hsm := out_small B0 W bs hbl hlen s0 hs0 k (by omega)
   have hrm : GrS.room (outK W bs s0 k).2 := ⟨by omega, by omega, by omega, by omega⟩
   have ho := iso_out K hiso G B0 B1 hG hGB W hWo hin he (outK W bs s0 k) b
   have hst : outK W bs s0 (k + 1) = outS B0 W (outK W bs s0 k) b := by show outS B0 W (outK W bs s0 k) (bs[k]?.getD []) = _; rw [hbk]; rfl
   refine do_ret (isoBus K hiso G B0 B1 hG hGB W hWo) 1 5 2 false true 0 A m c w2 S (outK W bs s0 k) ((1, []), outK W bs s0 (k + 1)) hI2 ?_ (.inr rfl) (fun h => absurd h (by decide)) (fun _ w3 dB wB sB B us hm3 hdo hI3 => ?_)
   ·exact tck_tok t_out1 (by omega) 5 2 false true 0 A m c (by omega) (by omega) (slz_of hPl (by omega)) (by show (0 : Int) ≤ m ∧ (m : Int) ≤ 1024; omega) (by decide) (by decide) (by decide) (by decide) (fun _ _ => rfl)
   ·have hout := out_ret (isoBus K hiso G B0 B1 hG hGB W hWo) (dev := true) (k := 0) (by omega) hdo (s := outK W bs s0 k) 5 2 false true 0 A m c b hI3 (hd2.mv hm3) ?_ (by omega) (ck_token (.inl rfl)) ?_ (ck_data false b (by omega)) ?_ (iso_ans K hiso G B0 B1 hG hGB W hWo hoff)
    ·rw [ho] at hout
     rw [hst]
     exact hout
    ·rcases Nat.eq_zero_or_pos m with h0 | h0
     ·exact .inl h0
     ·rcases hN.2 with h | ⟨a, rfl, _⟩
      ·omega
      ·exact .inr ⟨a, rfl, hd2.lt h0⟩
    ·exact fun _ => ⟨⟨.inr (.inl rfl), by simp⟩, hrm⟩
    ·exact fun _ => ⟨⟨.inr (.inr rfl), by show b.length ≤ 1024; omega⟩, iso_room K hiso G B0 B1 hG hGB W hWo ⟨1, 5, 2, []⟩ (.inr rfl) true (outK W bs s0 k) hsm⟩
 ans := by
  rintro k wr S V A m c hk ⟨PA, pc, XA, xc, rfl, ⟨vs, hA, hb, hf1, hf2⟩, hx, _⟩ hI hd hb0
  have hP0 : PkOn (fun i => i < b0 ∧ i < wr.heap.size ∧ ¬ S i) wr PA bs.length pc bs := ⟨vs, hA, hb, hf1, hf2⟩
  have hm0 : m = 0 := by have := hd.1.1; simpa using this.symm
  subst hm0
  have hsl := sumTo_le bs hbl k
  unfold isoV
  refine (ans_out 5 2 8 8 1 0 1 0 false false bs.length k xc pc 0 0 PA XA none (sumTo bs k) vs bs (noPieces k) A 0 c [] wr (by omega) (by omega) hA hb hx.1 hd.1 (by omega) (by omega) ⟨by omega, by omega⟩ (fun b hb => by have := hbl b hb; omega)).mono ?_
  rintro e w' ⟨hbel, b, XA', xc', hbk, rfl, hP, g, rfl, hg⟩
  refine ⟨hbel, _, rfl, PA, pc, some ⟨g, 0, none⟩, xc', ?_, ?_, ?_, .inr ⟨g, rfl⟩⟩
  ·unfold isoV
   rw [sumTo_succ, hbk]
   simp
  ·exact (hP0.on fun i hi => hbel.block i hi.2.1).wide fun i hi => ⟨hi.1, Nat.lt_of_lt_of_le hi.2.1 hbel.size, hi.2.2⟩
  ·exact ⟨hP, .inr ⟨_, rfl, fun h => by have := (isoBus K hiso G B0 B1 hG hGB W hWo).lt hI _ h; simp at this; omega, by simp; omega⟩⟩
end
end Go.Proofs.YtiajboiobjfcoaaGreatDoor
