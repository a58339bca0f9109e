/-
  What is proved here: the desk, its port and its endpoints as one state; what writes of their parts make of it.
  Conditions: none.
-/
import Derived.Test.YthifcblajimppaaDBase
namespace Go.Proofs.Ythifcblajimppaa
open Go.Proofs Go.RowKit
def EpK.on (K : EpK) (B : Nat) (F : Nat → Prop) (hB : K.B0 ≤ B) : EpK := { K with B0 := B, F := F, lt := ⟨Nat.lt_of_lt_of_le K.lt.1 hB, Nat.lt_of_lt_of_le K.lt.2.1 hB, Nat.lt_of_lt_of_le K.lt.2.2.1 hB, Nat.lt_of_lt_of_le K.lt.2.2.2 hB⟩ }
theorem EpAt.on {K : EpK} {w : World} {S : Nat → Prop} {s : EpS} (h : EpAt K w S s) (B : Nat) (hB : K.B0 ≤ B) (hBw : B ≤ w.heap.size) (F : Nat → Prop) (hF : ∀ i, F i → i < B ∧ ¬ S i ∧ (K.F i ∨ K.B0 ≤ i)) : EpAt (K.on B F hB) w S s := by
 obtain ⟨Q, qn, qc, hI, ⟨hl0, hc0, hQ⟩, hrow, hrl⟩ := h.inn
 have hl := K.lt
 have hn : ∀ i, i < K.B0 → ¬ (S i ∨ K.F i) → ¬ (S i ∨ F i) := fun i hi hs hx => hx.elim (fun h => hs (.inl h)) (fun h => (hF i h).2.2.elim (fun h => hs (.inr h)) (by omega))
 refine ⟨h.set, h.nxt, h.wait, ⟨Q, qn, qc, hI, ⟨hl0, hc0, hQ.imp id ?_⟩, hrow, fun a e => ⟨Nat.lt_of_lt_of_le (hrl a e).1 hB, hn _ (hrl a e).1 (hrl a e).2⟩⟩, h.out, h.map, h.own, h.lt, hBw, ⟨fun i hf => ⟨(hF i hf).1, (hF i hf).2.1⟩, fun hf => (hF _ hf).2.2.elim h.far.2 (fun h0 => by have h0 : K.B0 ≤ K.m := h0; omega)⟩⟩
 rintro ⟨a, rfl, hb, hs, hx⟩
 refine ⟨a, rfl, Nat.lt_of_lt_of_le hb hB, hn _ hb hs, fun j xs hj => ?_⟩
 obtain ⟨A, n, c, hc, hu, hn', hf⟩ := hx j xs hj
 exact ⟨A, n, c, hc, hu, hn', hf.imp id fun ⟨b, e, h1, h2⟩ => ⟨b, e, Nat.lt_of_lt_of_le h1 hB, hn _ h1 h2⟩⟩
def ptC (I O : Nat) (A1 : Option Addr) (n1 c1 : Nat) (A2 : Option Addr) (n2 c2 : Nat) (ln t : Int) (N : Value) : Array Value :=
 #[.slice A1 n1 c1, .slice A2 n2 c2, .int .u16 5, .int .u32 9600, .int .u8 0, .int .u8 0, .int .u8 8, .int .u8 ln, .int .u8 0, .int .u8 0, .int .i64 0, .int .i64 t, .pointer (some ⟨I, 0, none⟩), .pointer (some ⟨O, 0, none⟩), N]
structure Gs where
 ep : EpS
 t0 : Bool
 t1 : Bool
 pb : List Int
 pin : List Int
 t : Int
structure Kp (L : Nat → Prop) (w w' : World) : Prop where
 os : w'.os = w.os
 tape : w'.tape = w.tape
 output : w'.output = w.output
 size : w.heap.size ≤ w'.heap.size
 block : ∀ i, i < w.heap.size → L i → w'.heap[i]? = w.heap[i]?
theorem Kp.refl (L : Nat → Prop) (w : World) : Kp L w w := ⟨rfl, rfl, rfl, Nat.le_refl _, fun _ _ _ => rfl⟩
theorem Kp.trans {L : Nat → Prop} {a b c : World} (h : Kp L a b) (k : Kp L b c) : Kp L a c :=
 ⟨k.os.trans h.os, k.tape.trans h.tape, k.output.trans h.output, Nat.le_trans h.size k.size, fun i hi hl => (k.block i (Nat.lt_of_lt_of_le hi h.size) hl).trans (h.block i hi hl)⟩
theorem Kp.wrote {L : Nat → Prop} {w w' : World} {g : Nat} (h : Wrote g w w') (hg : ¬ L g) : Kp L w w' := ⟨h.os, h.tape, h.output, Nat.le_of_eq h.size.symm, fun i _ hl => h.other i fun e => hg (e ▸ hl)⟩
theorem Kp.sub {L L' : Nat → Prop} {w w' : World} (h : Kp L w w') (hs : ∀ i, L' i → L i) : Kp L' w w' := ⟨h.os, h.tape, h.output, h.size, fun i hi hl => h.block i hi (hs i hl)⟩
def QBk (K : EpK) (L : Nat → Prop) (d P : Nat) (A : Option Addr) : Prop := ∀ a, A = some a → K.F a.block ∧ a.block ≠ P ∧ a.block ≠ d ∧ ¬ L a.block
structure PtAt (L : Nat → Prop) (d P : Nat) (K : EpK) (S : Nat → Prop) (g : Gs) (ln : Int) (N : Value) (A1 : Option Addr) (n1 c1 : Nat) (A2 : Option Addr) (n2 c2 : Nat) (w : World) : Prop where
 ep : EpAt K w S g.ep
 port : w.heap[P]? = some (.cells (ptC K.I K.O A1 n1 c1 A2 n2 c2 ln g.t N) 67 (0, 0))
 desk : w.heap[d]? = some (.cells (dkC P K.s g.t0 g.t1 false K.mx false) 32 (0, 0))
 r1 : RowB w A1 n1 c1 g.pb
 r2 : RowB w A2 n2 c2 g.pin
 far : K.F P ∧ K.F d ∧ (∀ i, L i → K.F i) ∧ d ≠ P ∧ ¬ L d ∧ ¬ L P
 f1 : QBk K L d P A1
 f2 : QBk K L d P A2
 f12 : ∀ a b, A1 = some a → A2 = some b → a.block ≠ b.block
 mo : ∀ cs e r, K.mo ≠ .cells cs e r
theorem RowB.keep {w w' : World} {A : Option Addr} {n c : Nat} {xs : List Int} (h : RowB w A n c xs) (hk : ∀ a, A = some a → w'.heap[a.block]? = w.heap[a.block]?) : RowB w' A n c xs := ⟨h.1.keep hk, h.2⟩
theorem RowB.lt {w : World} {A : Option Addr} {n c : Nat} {xs : List Int} (h : RowB w A n c xs) : ∀ a, A = some a → a.block < w.heap.size := by
 intro a e
 obtain ⟨_, _, _, ⟨h4, _⟩ | ⟨b, off, cs, e2, h5, _⟩⟩ := h.1
 ·rw [h4] at e; cases e
 ·rw [e2] at e; cases e
  exact (Array.getElem?_eq_some_iff.1 h5).1
variable {L : Nat → Prop} {d P : Nat} {K : EpK} {S : Nat → Prop} {g : Gs} {ln : Int} {N : Value} {A1 : Option Addr} {n1 c1 : Nat} {A2 : Option Addr} {n2 c2 : Nat} {w : World}
theorem PtAt.noS (h : PtAt L d P K S g ln N A1 n1 c1 A2 n2 c2 w) {i : Nat} (hf : K.F i) : ¬ S i := (h.ep.far.1 i hf).2
theorem PtAt.low (h : PtAt L d P K S g ln N A1 n1 c1 A2 n2 c2 w) {i : Nat} (hs : S i) : ¬ L i := fun hi => h.noS (h.far.2.2.1 i hi) hs
theorem PtAt.lowlt (h : PtAt L d P K S g ln N A1 n1 c1 A2 n2 c2 w) {i : Nat} (hl : L i) : i < w.heap.size := Nat.lt_of_lt_of_le (h.ep.far.1 i (h.far.2.2.1 i hl)).1 h.ep.base
theorem PtAt.mv {w' : World} {S' : Nat → Prop} {s' : EpS} (h : PtAt L d P K S g ln N A1 n1 c1 A2 n2 c2 w) (hE : EpAt K w' S' s') (hm : Mv S w S' w') : PtAt L d P K S' { g with ep := s' } ln N A1 n1 c1 A2 n2 c2 w' ∧ Kp L w w' := by
 have hk : ∀ i, i < w.heap.size → K.F i → w'.heap[i]? = w.heap[i]? := fun i hi hf => hm.block i hi (h.noS hf)
 have hp := (Array.getElem?_eq_some_iff.1 h.port).1
 have hd := (Array.getElem?_eq_some_iff.1 h.desk).1
 exact ⟨⟨hE, (hk _ hp h.far.1).trans h.port, (hk _ hd h.far.2.1).trans h.desk, h.r1.keep fun a e => hk _ (h.r1.lt a e) (h.f1 a e).1, h.r2.keep fun a e => hk _ (h.r2.lt a e) (h.f2 a e).1, h.far, h.f1, h.f2, h.f12, h.mo⟩, ⟨hm.os, hm.tape, hm.output, hm.size, fun i hi hl => hk i hi (h.far.2.2.1 i hl)⟩⟩
theorem PtAt.below {w' : World} (h : PtAt L d P K S g ln N A1 n1 c1 A2 n2 c2 w) (hb : Below w.heap.size w w') : PtAt L d P K S g ln N A1 n1 c1 A2 n2 c2 w' ∧ Kp L w w' :=
 h.mv (h.ep.below hb) ((Mv.refl S w).below hb)
theorem PtAt.deskw {w' : World} {t0 t1 : Bool} (h : PtAt L d P K S g ln N A1 n1 c1 A2 n2 c2 w) (hW : Wrote d w w') (hd : w'.heap[d]? = some (.cells (dkC P K.s t0 t1 false K.mx false) 32 (0, 0))) : PtAt L d P K S { g with t0 := t0, t1 := t1 } ln N A1 n1 c1 A2 n2 c2 w' ∧ Kp L w w' :=
 ⟨⟨h.ep.wroteF hW h.far.2.1, (hW.other P (fun e => h.far.2.2.2.1 e.symm)).trans h.port, hd, h.r1.keep fun a e => hW.other _ (h.f1 a e).2.2.1, h.r2.keep fun a e => hW.other _ (h.f2 a e).2.2.1, h.far, h.f1, h.f2, h.f12, h.mo⟩, .wrote hW h.far.2.2.2.2.1⟩
theorem PtAt.outw {w' : World} {r : Int} (h : PtAt L d P K S g ln N A1 n1 c1 A2 n2 c2 w) (hW : Wrote K.O w w') (hr : r = 0 ∨ r = 1) (hO : w'.heap[K.O]? = some (.cells (epC none 0 0 r none 0 0 2 false 2 K.mx g.ep.otg false) 91 (0, 0))) : PtAt L d P K S { g with ep := { g.ep with room := r, tk := none } } ln N A1 n1 c1 A2 n2 c2 w' ∧ Kp L w w' := by
 have hne : ∀ i, K.F i → i ≠ K.O := fun i hf e => h.noS hf (e ▸ h.ep.own.2.2.1)
 exact ⟨⟨h.ep.outw hW r hr hO, (hW.other P (hne _ h.far.1)).trans h.port, (hW.other d (hne _ h.far.2.1)).trans h.desk, h.r1.keep fun a e => hW.other _ (hne _ (h.f1 a e).1), h.r2.keep fun a e => hW.other _ (hne _ (h.f2 a e).1), h.far, h.f1, h.f2, h.f12, h.mo⟩, .wrote hW (h.low h.ep.own.2.2.1)⟩
theorem PtAt.put {w' : World} {X : Nat → Prop} {ln' t' : Int} {A1' A2' : Option Addr} {n1' c1' n2' c2' : Nat} {pb' pin' : List Int} (h : PtAt L d P K S g ln N A1 n1 c1 A2 n2 c2 w) (hm : Mv X w X w') (hX : ∀ i, i < w.heap.size → X i → K.F i ∧ i ≠ d ∧ ¬ L i)
  (hP : w'.heap[P]? = some (.cells (ptC K.I K.O A1' n1' c1' A2' n2' c2' ln' t' N) 67 (0, 0))) (hr1 : RowB w' A1' n1' c1' pb') (hr2 : RowB w' A2' n2' c2' pin') (k1 : ∀ a, A1' = some a → A1' = A1 ∨ w.heap.size ≤ a.block) (k2 : ∀ a, A2' = some a → A2' = A2 ∨ w.heap.size ≤ a.block) (k12 : ∀ a b, A1' = some a → A2' = some b → a.block ≠ b.block) :
  ∃ F hB, PtAt L d P (K.on w'.heap.size F hB) S { g with pb := pb', pin := pin', t := t' } ln' N A1' n1' c1' A2' n2' c2' w' ∧ Kp L w w' := by
 have hE : EpAt K w' S g.ep := h.ep.foreign hm fun i hi hx => (hX i hi hx).1
 have hB := h.ep.base
 have hs := hm.size
 have hp := (Array.getElem?_eq_some_iff.1 h.port).1
 have hd := (Array.getElem?_eq_some_iff.1 h.desk).1
 refine ⟨fun i => K.F i ∨ (∃ a, A1' = some a ∧ i = a.block) ∨ ∃ a, A2' = some a ∧ i = a.block, Nat.le_trans hB hs, ⟨hE.on _ _ (Nat.le_refl _) _ ?_, hP, (hm.block d hd fun hx => (hX d hd hx).2.1 rfl).trans h.desk, hr1, hr2, ⟨.inl h.far.1, .inl h.far.2.1, fun i hi => .inl (h.far.2.2.1 i hi), h.far.2.2.2⟩, ?_, ?_, k12, h.mo⟩, ⟨hm.os, hm.tape, hm.output, hm.size, fun i hi hl => hm.block i hi fun hx => (hX i hi hx).2.2 hl⟩⟩
 ·have hnew : ∀ {A' A0 : Option Addr} {n0 c0 : Nat} {ys : List Int}, RowB w' A' n0 c0 ys → QBk K L d P A0 → (∀ a, A' = some a → A' = A0 ∨ w.heap.size ≤ a.block) → ∀ a, A' = some a → a.block < w'.heap.size ∧ ¬ S a.block ∧ (K.F a.block ∨ K.B0 ≤ a.block) := by
   intro A' A0 n0 c0 ys hr hq hk a e
   refine ⟨hr.lt a e, ?_⟩
   rcases hk a e with h1 | h1
   ·exact ⟨h.noS (hq a (h1 ▸ e)).1, .inl (hq a (h1 ▸ e)).1⟩
   ·exact ⟨fun hs => by have := h.ep.lt _ hs; omega, .inr (by omega)⟩
  rintro i (hf | ⟨a, e, rfl⟩ | ⟨a, e, rfl⟩)
  ·exact ⟨by have := (h.ep.far.1 i hf).1; omega, h.noS hf, .inl hf⟩
  ·exact hnew hr1 h.f1 k1 a e
  ·exact hnew hr2 h.f2 k2 a e
 ·intro a e
  refine ⟨.inr (.inl ⟨a, e, rfl⟩), ?_⟩
  rcases k1 a e with h1 | h1
  ·exact (h.f1 a (h1 ▸ e)).2
  ·exact ⟨by omega, by omega, fun hl => by have := h.lowlt hl; omega⟩
 ·intro a e
  refine ⟨.inr (.inr ⟨a, e, rfl⟩), ?_⟩
  rcases k2 a e with h1 | h1
  ·exact (h.f2 a (h1 ▸ e)).2
  ·exact ⟨by omega, by omega, fun hl => by have := h.lowlt hl; omega⟩
theorem PtAt.widen (h : PtAt L d P K S g ln N A1 n1 c1 A2 n2 c2 w) (b : Nat) (hb : K.B0 ≤ b ∧ b < w.heap.size) (hs : ¬ S b) (hne : b ≠ P ∧ b ≠ d ∧ (∀ a, A1 = some a → a.block ≠ b) ∧ ∀ a, A2 = some a → a.block ≠ b) :
  ∃ F hB, PtAt (fun i => L i ∨ i = b) d P (K.on w.heap.size F hB) S g ln N A1 n1 c1 A2 n2 c2 w := by
 refine ⟨fun i => K.F i ∨ i = b, h.ep.base, ⟨h.ep.on _ _ (Nat.le_refl _) _ ?_, h.port, h.desk, h.r1, h.r2, ⟨.inl h.far.1, .inl h.far.2.1, fun i hi => hi.imp (h.far.2.2.1 i) id, h.far.2.2.2.1, fun hx => hx.elim h.far.2.2.2.2.1 (fun e => hne.2.1 e.symm), fun hx => hx.elim h.far.2.2.2.2.2 (fun e => hne.1 e.symm)⟩,
  fun a e => ⟨.inl (h.f1 a e).1, (h.f1 a e).2.1, (h.f1 a e).2.2.1, fun hx => hx.elim (h.f1 a e).2.2.2 (hne.2.2.1 a e)⟩, fun a e => ⟨.inl (h.f2 a e).1, (h.f2 a e).2.1, (h.f2 a e).2.2.1, fun hx => hx.elim (h.f2 a e).2.2.2 (hne.2.2.2 a e)⟩, h.f12, h.mo⟩⟩
 rintro i (hf | rfl)
 ·exact ⟨Nat.lt_of_lt_of_le (h.ep.far.1 i hf).1 h.ep.base, h.noS hf, .inl hf⟩
 ·exact ⟨hb.2, hs, .inr hb.1⟩
theorem PtAt.narrow {L' : Nat → Prop} (h : PtAt L d P K S g ln N A1 n1 c1 A2 n2 c2 w) (hs : ∀ i, L' i → L i) : PtAt L' d P K S g ln N A1 n1 c1 A2 n2 c2 w :=
 ⟨h.ep, h.port, h.desk, h.r1, h.r2, ⟨h.far.1, h.far.2.1, fun i hi => h.far.2.2.1 i (hs i hi), h.far.2.2.2.1, fun hx => h.far.2.2.2.2.1 (hs _ hx), fun hx => h.far.2.2.2.2.2 (hs _ hx)⟩, fun a e => ⟨(h.f1 a e).1, (h.f1 a e).2.1, (h.f1 a e).2.2.1, fun hx => (h.f1 a e).2.2.2 (hs _ hx)⟩, fun a e => ⟨(h.f2 a e).1, (h.f2 a e).2.1, (h.f2 a e).2.2.1, fun hx => (h.f2 a e).2.2.2 (hs _ hx)⟩, h.f12, h.mo⟩
def QSep (w : World) (Q : Option Addr) (vs : List Value) : Prop := ∀ v ∈ vs, ∀ b n c, v = .slice (some b) n c → b.block < w.heap.size ∧ ∀ a, Q = some a → b.block ≠ a.block
def QIs (K : EpK) (w : World) (Q : Option Addr) (qn qc : Nat) (vs : List Value) (tg : Bool) : Prop :=
 w.heap[K.I]? = some (.cells (epC Q qn qc K.rI none 0 0 1 true 2 K.mx tg false) 91 (0, 0)) ∧ RowAt w 33 Q qn qc vs ∧ QSep w Q vs
set_option maxHeartbeats 1000000 in
theorem PtAt.offer (h : PtAt L d P K S g ln N A1 n1 c1 A2 n2 c2 w) {Q : Option Addr} {qn qc : Nat} {vs : List Value} (hQ : QIs K w Q qn qc vs g.ep.itg) (hq : qn < 2) (hmx : 0 < K.mx) {A : Option Addr} {n c : Nat} {ys : List Int} (hU : U8 w A n c ys) (hn : n ≤ K.mx) :
  Calls Try.prog 26 #[.pointer (some ⟨K.I, 0, none⟩), .slice A n c] w fun e w' => e = .returned (.int .i64 0) ∧ ∃ hB Q' qc' v, PtAt L d P (K.on w'.heap.size K.F hB) S { g with ep := { g.ep with q := g.ep.q ++ [ys] } } ln N A1 n1 c1 A2 n2 c2 w' ∧ QIs (K.on w'.heap.size K.F hB) w' Q' (qn + 1) qc' (vs ++ [v]) g.ep.itg ∧ Kp L w w' ∧ (∀ i, i < w.heap.size → K.F i → w'.heap[i]? = w.heap[i]?) := by
 obtain ⟨hI, hR, hsep⟩ := hQ
 obtain ⟨Q0, qn0, qc0, hI0, ⟨hl0, hc0, hQ0⟩, hrow, hrl⟩ := h.ep.inn
 have heq : epC Q0 qn0 qc0 K.rI none 0 0 1 true 2 K.mx g.ep.itg false = epC Q qn qc K.rI none 0 0 1 true 2 K.mx g.ep.itg false := by
  have := hI0.symm.trans hI
  simpa using this
 have heq0 : Value.slice Q0 qn0 qc0 = .slice Q qn qc := by
  have := congrArg (fun a : Array Value => a[0]?) heq
  simpa [epC] using this
 cases heq0
 clear heq hI0
 have hB := h.ep.base
 have hl := K.lt
 have hne := K.ne
 have hmm := K.hm
 have hQI : ∀ a, Q = some a → a.block ≠ K.I := fun a e e2 => (hrl a e).2 (.inl (e2 ▸ h.ep.own.2.1))
 refine (offer_ret K.I Q qn qc K.rI none 0 0 1 2 K.mx g.ep.itg false vs A n c ys w hmx hn (by omega) hq hI hR hQI (fun a e => by have := (hrl a e).1; omega) hU).mono ?_
 rintro e w' ⟨rfl, Q', c', gd, cd, hI', hR', hF', hgd, hm, hnew, hdist⟩
 have hsz := hm.size
 have hX : ∀ i, i = K.I ∨ (∃ a, Q = some a ∧ i = a.block) → ¬ K.F i := by
  rintro i (rfl | ⟨a, e, rfl⟩) hf
  ·exact h.noS hf h.ep.own.2.1
  ·exact (hrl a e).2 (.inr hf)
 have hXm : ∀ i, i = K.I ∨ (∃ a, Q = some a ∧ i = a.block) → i = K.I ∨ ¬ S i := by
  rintro i (rfl | ⟨a, e, rfl⟩)
  ·exact .inl rfl
  ·exact .inr fun hs => (hrl a e).2 (.inl hs)
 have hkF : ∀ i, i < w.heap.size → K.F i → w'.heap[i]? = w.heap[i]? := fun i hi hf => hm.block i hi fun hx => hX i hx hf
 have hkS : ∀ i, S i → i ≠ K.I → w'.heap[i]? = w.heap[i]? := fun i hs hi => hm.block i (h.ep.lt i hs) fun hx => (hXm i hx).elim hi fun hn => hn hs
 have hQm : ∀ a, Q = some a → a.block ≠ K.m := fun a e e2 => by
  obtain ⟨_, _, _, ⟨h4, _⟩ | ⟨b, off, cs, e', h5, _⟩⟩ := hR
  ·rw [h4] at e; cases e
  ·rw [e'] at e; cases e
   have h6 := h.ep.map
   rw [← e2] at h6
   have h7 := h5.symm.trans h6
   cases hmo' : K.mo with
   | cells cs e r => exact h.mo cs e r hmo'
   | _ => rw [hmo'] at h7; cases h7
 have hp := (Array.getElem?_eq_some_iff.1 h.port).1
 have hd := (Array.getElem?_eq_some_iff.1 h.desk).1
 have hgl : gd < w'.heap.size := (Array.getElem?_eq_some_iff.1 hF'.2.2.2.choose_spec.1).1
 have hyn : ys.length = n := hU.1
 have hQ'b : ∀ a, Q' = some a → a.block < w'.heap.size ∧ ¬ (S a.block ∨ K.F a.block) := fun a e => by
  rcases hnew a e with h1 | h1
  ·have := hrl a (h1 ▸ e)
   exact ⟨by omega, this.2⟩
  ·refine ⟨?_, fun hs => hs.elim (fun hs => by have := h.ep.lt _ hs; omega) (fun hf => by have := (h.ep.far.1 _ hf).1; omega)⟩
   obtain ⟨_, _, _, ⟨h4, _⟩ | ⟨b, off, cs, e', h5, _⟩⟩ := hR'
   ·rw [h4] at e; cases e
   ·rw [e'] at e; cases e
    exact (Array.getElem?_eq_some_iff.1 h5).1
 have hsep' : QSep w' Q' (vs ++ [.slice (some ⟨gd, 0, none⟩) ys.length cd]) := by
  intro v hv b n c e
  rcases List.mem_append.1 hv with hv | hv
  ·have h0 := hsep v hv b n c e
   refine ⟨by omega, fun a ea => ?_⟩
   rcases hnew a ea with h1 | h1
   ·exact h0.2 a (h1 ▸ ea)
   ·omega
  ·obtain rfl := List.mem_singleton.1 hv
   cases e
   exact ⟨hgl, fun a ea e => hdist a ea e.symm⟩
 refine ⟨rfl, Nat.le_trans hB hsz, Q', c', _, ⟨⟨(hkS _ h.ep.own.1 (by omega)).trans h.ep.set, h.ep.nxt, fun _ => by simp, ⟨Q', qn + 1, c', hI', ⟨by simp [hl0], hR'.2.1, .inr ?_⟩, ⟨⟨_, hR'⟩, hQ'b⟩⟩, h.ep.out.keep (hkS _ h.ep.own.2.2.1 (by omega)) (fun i hi _ h2 _ => hkS i hi h2) (fun _ h => h), (hm.block _ (by omega) fun hx => hx.elim (by omega) (fun ⟨a, e, e2⟩ => hQm a e e2.symm)).trans h.ep.map, h.ep.own, fun i hi => Nat.lt_of_lt_of_le (h.ep.lt i hi) hsz, Nat.le_refl _, ⟨fun i hf => ⟨by have := (h.ep.far.1 i hf).1; show i < w'.heap.size; omega, h.noS hf⟩, h.ep.far.2⟩⟩, (hkF _ hp h.far.1).trans h.port, (hkF _ hd h.far.2.1).trans h.desk, h.r1.keep fun a e => hkF _ (h.r1.lt a e) (h.f1 a e).1, h.r2.keep fun a e => hkF _ (h.r2.lt a e) (h.f2 a e).1, h.far, h.f1, h.f2, h.f12, h.mo⟩, ⟨hI', hR', hsep'⟩, ⟨hm.os, hm.tape, hm.output, hsz, fun i hi hl => hkF i hi (h.far.2.2.1 i hl)⟩, hkF⟩
 obtain ⟨a', rfl⟩ : ∃ a', Q' = some a' := by
  obtain ⟨_, _, _, ⟨_, h4, _⟩ | ⟨b, off, cs, e', h5, _⟩⟩ := hR'
  ·omega
  ·exact ⟨_, e'⟩
 refine ⟨a', rfl, (hQ'b a' rfl).1, (hQ'b a' rfl).2, fun j xs hj => ?_⟩
 by_cases hjn : j < qn
 ·have hjq : g.ep.q[j]? = some xs := by rw [← hj, List.getElem?_append_left (by omega)]
  rcases hQ0 with h0 | ⟨a, rfl, hb, hs, hx⟩
  ·omega
  obtain ⟨A3, n3, c3, hc, hu, hn3, hf⟩ := hx j xs hjq
  have hvj := (hR.cell hjn).symm.trans hc
  have hl2 : vs.length = qn := hR.1
  refine ⟨A3, n3, c3, (hR'.cell (by omega)).trans ((List.getElem?_append_left (by omega)).trans hvj), u8_blk hu (hf.imp id fun ⟨b, e, h1, h2⟩ => ⟨b, e, hm.block _ (by omega) ?_⟩), hn3, hf.imp id fun ⟨b, e, h1, h2⟩ => ⟨b, e, by show b.block < w'.heap.size; omega, h2⟩⟩
  rintro (e3 | ⟨a4, e4, e3⟩)
  ·exact h2 (.inl (e3 ▸ h.ep.own.2.1))
  ·subst e
   exact (hsep _ (List.mem_of_getElem? hvj) b n3 c3 rfl).2 a4 e4 e3
 ·have hjl := (List.getElem?_eq_some_iff.1 hj).1
  simp only [List.length_append, List.length_singleton] at hjl
  obtain rfl : j = qn := by omega
  have hxy : ys = xs := by rw [List.getElem?_append_right (by omega)] at hj; simpa [hl0] using hj
  subst hxy
  have hl2 : vs.length = j := hR.1
  refine ⟨some ⟨gd, 0, none⟩, ys.length, cd, (hR'.cell (by omega)).trans ?_, hF'.u8, by omega, .inr ⟨_, rfl, hgl, fun hs => hs.elim (fun hs => by have := h.ep.lt _ hs; dsimp only at this; omega) (fun hf => by have := (h.ep.far.1 _ hf).1; dsimp only at this; omega)⟩⟩
  rw [List.getElem?_append_right (by omega)]
  simp [hl2]
end Go.Proofs.Ythifcblajimppaa
