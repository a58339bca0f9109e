/-
  What is proved here: a set of endpoints (the law's two) and the wire without faults, as a bus.
  Conditions: the table's look-ups.
-/
import Derived.Test.YthifcblajimppaaDRw
import Derived.Test.YthifcblajimppaaIDo
namespace Go.Proofs.Ythifcblajimppaa
open Go.Proofs Go.RowKit
structure EpK where
 s : Nat
 I : Nat
 O : Nat
 m : Nat
 B0 : Nat
 mx : Nat
 rI : Int
 mo : Obj
 F : Nat → Prop
 look : ∀ w : World, w.heap[m]? = some mo → EndsAt (some m) I O w
 ne : s ≠ I ∧ s ≠ O ∧ I ≠ O ∧ m ≠ s ∧ m ≠ I ∧ m ≠ O
 lt : s < B0 ∧ I < B0 ∧ O < B0 ∧ m < B0
 hm : mx ≤ 1024
structure EpS where
 nxt : Int
 q : List (List Int)
 itg : Bool
 room : Int
 tk : Option (List Int)
 otg : Bool
def exOf (K : EpK) (t : Int) : Option Addr := if t = 1 then some ⟨K.O, 0, none⟩ else if t = 9 then some ⟨K.I, 0, none⟩ else none
def QAt (K : EpK) (w : World) (S : Nat → Prop) (Q : Option Addr) (qn qc : Nat) (q : List (List Int)) : Prop :=
 q.length = qn ∧ qn ≤ qc ∧ (qn = 0 ∨ ∃ a, Q = some a ∧ a.block < K.B0 ∧ ¬ S a.block ∧ ∀ j xs, q[j]? = some xs → ∃ A n c, w.cell? (a.add j) = some (.slice A n c) ∧ U8 w A n c xs ∧ n ≤ 1024 ∧ (n = 0 ∨ ∃ b, A = some b ∧ b.block < K.B0 ∧ ¬ S b.block))
def QRow (K : EpK) (w : World) (S : Nat → Prop) (Q : Option Addr) (qn qc : Nat) : Prop :=
 (∃ vs, RowAt w 33 Q qn qc vs) ∧ ∀ a, Q = some a → a.block < K.B0 ∧ ¬ S a.block
def TkAt (K : EpK) (w : World) (S : Nat → Prop) (T : Option Addr) (tn tc : Nat) : Option (List Int) → Prop
 | none => T = none ∧ tn = 0 ∧ tc = 0
 | some xs => tn = 1 ∧ ∃ g1 gd cd, T = some ⟨g1, 0, none⟩ ∧ 1 ≤ tc ∧ w.cell? ⟨g1, 0, none⟩ = some (.slice (some ⟨gd, 0, none⟩) xs.length cd) ∧ F8 w gd xs.length cd xs ∧ (S g1 ∧ S gd) ∧ (g1 ≠ K.s ∧ g1 ≠ K.I ∧ g1 ≠ K.O) ∧ (gd ≠ K.s ∧ gd ≠ K.I ∧ gd ≠ K.O)
def InAt (K : EpK) (w : World) (S : Nat → Prop) (q : List (List Int)) (tg : Bool) : Prop :=
 ∃ Q qn qc, w.heap[K.I]? = some (.cells (epC Q qn qc K.rI none 0 0 1 true 2 K.mx tg false) 91 (0, 0)) ∧ QAt K w S Q qn qc q ∧ QRow K w S Q qn qc
def OutAt (K : EpK) (w : World) (S : Nat → Prop) (room : Int) (tk : Option (List Int)) (tg : Bool) : Prop :=
 ∃ T tn tc, w.heap[K.O]? = some (.cells (epC none 0 0 room T tn tc 2 false 2 K.mx tg false) 91 (0, 0)) ∧ TkAt K w S T tn tc tk ∧ (room = 0 ∨ room = 1) ∧ (room = 1 → tk = none)
structure EpAt (K : EpK) (w : World) (S : Nat → Prop) (s : EpS) : Prop where
 set : w.heap[K.s]? = some (.cells (setC (some K.m) s.nxt (exOf K s.nxt)) 98 (0, 0))
 nxt : s.nxt = 0 ∨ s.nxt = 1 ∨ s.nxt = 9
 wait : s.nxt = 9 → s.q ≠ []
 inn : InAt K w (fun i => S i ∨ K.F i) s.q s.itg
 out : OutAt K w S s.room s.tk s.otg
 map : w.heap[K.m]? = some K.mo
 own : S K.s ∧ S K.I ∧ S K.O ∧ ¬ S K.m
 lt : ∀ i, S i → i < w.heap.size
 base : K.B0 ≤ w.heap.size
 far : (∀ i, K.F i → i < K.B0 ∧ ¬ S i) ∧ ¬ K.F K.m
theorem u8_blk {w w' : World} {A : Option Addr} {n c : Nat} {xs : List Int} (h : U8 w A n c xs) (hk : n = 0 ∨ ∃ a, A = some a ∧ w'.heap[a.block]? = w.heap[a.block]?) : U8 w' A n c xs := by
 obtain ⟨h1, h2, h3, h4⟩ := h
 refine ⟨h1, h2, h3, h4.imp id ?_⟩
 rintro ⟨a, rfl, h5⟩
 refine ⟨a, rfl, fun j hj => ?_⟩
 rcases hk with h0 | ⟨a', e, hne⟩
 ·omega
 ·cases e
  exact (World.cell?_of_block (by rw [add_block']; exact hne)).trans (h5 j hj)
theorem QAt.keep {K : EpK} {w w' : World} {S S' : Nat → Prop} {Q : Option Addr} {qn qc : Nat} {q : List (List Int)} (h : QAt K w S Q qn qc q) (hk : ∀ i, i < K.B0 → ¬ S i → w'.heap[i]? = w.heap[i]?) (hS : ∀ i, i < K.B0 → S' i → S i) : QAt K w' S' Q qn qc q := by
 obtain ⟨h1, h2, h3⟩ := h
 refine ⟨h1, h2, h3.imp id ?_⟩
 rintro ⟨a, rfl, hb, hs, h4⟩
 refine ⟨a, rfl, hb, fun h => hs (hS _ hb h), fun j xs hj => ?_⟩
 obtain ⟨A, n, c, hc, hu, hn, hf⟩ := h4 j xs hj
 refine ⟨A, n, c, (World.cell?_of_block (by rw [add_block']; exact hk _ hb hs)).trans hc, u8_blk hu (hf.imp id fun ⟨b, e, h1, h2⟩ => ⟨b, e, hk _ h1 h2⟩), hn, hf.imp id fun ⟨b, e, h1, h2⟩ => ⟨b, e, h1, fun h => h2 (hS _ h1 h)⟩⟩
theorem InAt.keep {K : EpK} {w w' : World} {S S' : Nat → Prop} {q : List (List Int)} {tg : Bool} (h : InAt K w S q tg) (hI : w'.heap[K.I]? = w.heap[K.I]?) (hk : ∀ i, i < K.B0 → ¬ S i → w'.heap[i]? = w.heap[i]?) (hS : ∀ i, i < K.B0 → S' i → S i) : InAt K w' S' q tg := by
 obtain ⟨Q, qn, qc, h1, h2, ⟨vs, h3⟩, h4⟩ := h
 exact ⟨Q, qn, qc, hI.trans h1, h2.keep hk hS, ⟨vs, h3.keep fun a e => hk _ (h4 a e).1 (h4 a e).2⟩, fun a e => ⟨(h4 a e).1, fun hs => (h4 a e).2 (hS _ (h4 a e).1 hs)⟩⟩
theorem TkAt.keep {K : EpK} {w w' : World} {S S' : Nat → Prop} {T : Option Addr} {tn tc : Nat} {tk : Option (List Int)} (h : TkAt K w S T tn tc tk) (hk : ∀ i, S i → i ≠ K.s → i ≠ K.I → i ≠ K.O → w'.heap[i]? = w.heap[i]?) (hS : ∀ i, S i → S' i) : TkAt K w' S' T tn tc tk := by
 cases tk with
 | none => exact h
 | some xs =>
  obtain ⟨h1, g1, gd, cd, rfl, h2, h3, h4, h5, h6, h7⟩ := h
  exact ⟨h1, g1, gd, cd, rfl, h2, (World.cell?_of_block (a := ⟨g1, 0, none⟩) (hk g1 h5.1 h6.1 h6.2.1 h6.2.2)).trans h3, h4.heap (fun o ho => (hk gd h5.2 h7.1 h7.2.1 h7.2.2).trans ho), ⟨hS _ h5.1, hS _ h5.2⟩, h6, h7⟩
theorem OutAt.keep {K : EpK} {w w' : World} {S S' : Nat → Prop} {r : Int} {tk : Option (List Int)} {tg : Bool} (h : OutAt K w S r tk tg) (hO : w'.heap[K.O]? = w.heap[K.O]?) (hk : ∀ i, S i → i ≠ K.s → i ≠ K.I → i ≠ K.O → w'.heap[i]? = w.heap[i]?) (hS : ∀ i, S i → S' i) : OutAt K w' S' r tk tg := by
 obtain ⟨T, tn, tc, h1, h2, h3⟩ := h
 exact ⟨T, tn, tc, hO.trans h1, h2.keep hk hS, h3⟩
theorem Mv.widen {X Y : Nat → Prop} {w w' : World} (h : Mv X w X w') (hx : ∀ i, X i → Y i) : Mv Y w Y w' :=
 ⟨h.os, h.tape, h.output, h.size, fun i hi hs => h.block i hi (fun h' => hs (hx i h')), fun _ _ h => h⟩
theorem EpAt.set1 {K : EpK} {w w' : World} {S : Nat → Prop} {s : EpS} (h : EpAt K w S s) {t : Int} (hm : Mv (fun i => i = K.s) w (fun i => i = K.s) w') (hs : w'.heap[K.s]? = some (.cells (setC (some K.m) t (exOf K t)) 98 (0, 0))) (ht : t = 0 ∨ t = 1 ∨ (t = 9 ∧ s.q ≠ [])) : EpAt K w' S { s with nxt := t } := by
 have hne := K.ne
 have hl := K.lt
 have hB := h.base
 refine ⟨hs, ht.imp id (Or.imp id And.left), fun e => ?_, h.inn.keep (hm.block _ (by omega) (by omega)) (fun i hi hsi => hm.block i (by omega) (fun e => hsi (.inl (e ▸ h.own.1)))) (fun _ _ h => h), h.out.keep (hm.block _ (by omega) (by omega)) (fun i hi h1 _ _ => hm.block i (h.lt i hi) h1) (fun _ h => h), (hm.block _ (by omega) (by omega)).trans h.map, h.own, fun i hi => Nat.lt_of_lt_of_le (h.lt i hi) hm.size, Nat.le_trans hB hm.size, h.far⟩
 dsimp only at e
 rcases ht with h0 | h0 | h0
 ·omega
 ·omega
 ·exact h0.2
def EpS.hear (s : EpS) (p : Pk) : Option Pk × EpS :=
 if p.pid = 1 then (none, { s with nxt := 1 })
 else if p.pid = 9 then
  match s.q with
  | [] => (some ⟨10, 0, 0, []⟩, { s with nxt := 0 })
  | xs :: _ => (if xs.length ≤ 1024 then some ⟨if s.itg then 11 else 3, 0, 0, xs⟩ else none, { s with nxt := 9 })
 else if p.pid = 2 then
  if s.nxt = 9 then (none, { s with nxt := 0, q := s.q.tail, itg := !s.itg }) else (none, { s with nxt := 0 })
 else if s.nxt = 1 then
  if (p.pid == 11) = !s.otg then (some ⟨2, 0, 0, []⟩, { s with nxt := 0 })
  else if s.room = 0 then (some ⟨10, 0, 0, []⟩, { s with nxt := 0 })
  else (some ⟨2, 0, 0, []⟩, { s with nxt := 0, room := s.room - 1, tk := some p.data, otg := !s.otg })
 else (none, { s with nxt := 0 })
def PkOk (K : EpK) (p : Pk) : Prop := p.addr = 0 ∧ CkOk p ∧ ((p.pid = 1 ∧ p.endp = 2) ∨ (p.pid = 9 ∧ p.endp = 1) ∨ p.pid = 2 ∨ ((p.pid = 3 ∨ p.pid = 11) ∧ p.data.length ≤ K.mx))
def EpEnd (K : EpK) (w : World) (S : Nat → Prop) (r : Option Pk × EpS) (e : Ending) (w' : World) : Prop :=
 ∃ S' q b A' n' c', e = .returned (.tuple #[pkV q (.slice A' n' c'), .bool b]) ∧ EpAt K w' S' r.2 ∧ Mv S w S' w' ∧ D8 w' S' A' n' c' q.data ∧ (n' = 0 ∨ ∃ a, A' = some a ∧ (a.block < K.B0 ∨ w.heap.size ≤ a.block)) ∧ r.1 = (if b then some q else none)
theorem EpAt.pre {K : EpK} {w w1 : World} {S : Nat → Prop} {s : EpS} (h : EpAt K w S s) (hp : PreT K.s (some K.m) w w1) : EpAt K w1 S { s with nxt := 0 } :=
 h.set1 hp.1 hp.2 (.inl rfl)
theorem EpAt.look {K : EpK} {w : World} {S : Nat → Prop} {s : EpS} (h : EpAt K w S s) : ∀ w', Below w.heap.size w w' → EndsAt (some K.m) K.I K.O w' :=
 fun w' hb => K.look w' (heap_below h.map hb)
theorem ep_set {K : EpK} {w w1 w2 w' : World} {S : Nat → Prop} {s : EpS} {g : Nat} {q : Pk} {b : Bool} {t : Int} {r : Option Pk × EpS} (h : EpAt K w S s) (hp : PreT K.s (some K.m) w w1) (hm : Mv (fun i => i = K.s) w1 (fun i => i = K.s) w2) (hs : w2.heap[K.s]? = some (.cells (setC (some K.m) t (exOf K t)) 98 (0, 0))) (hW : Wrote g w2 w') (hg : w.heap.size ≤ g) (ht : t = 0 ∨ t = 1 ∨ (t = 9 ∧ s.q ≠ [])) {A' : Option Addr} {n' c' : Nat} (hd : D8 w' S A' n' c' q.data) (hf : n' = 0 ∨ ∃ a, A' = some a ∧ w.heap.size ≤ a.block)
  (hr : r = ((if b then some q else none), { s with nxt := t })) : EpEnd K w S r (.returned (.tuple #[pkV q (.slice A' n' c'), .bool b])) w' := by
 have hl := h.lt _ h.own.1
 have hmv := (hp.1.trans hm).wrote hW hg
 have hE := h.set1 hmv ((hW.other K.s (by omega)).trans hs) ht
 subst hr
 exact ⟨S, q, b, A', n', c', rfl, hE, hmv.widen (fun i e => e ▸ h.own.1), hd, hf.imp id fun ⟨a, e, h⟩ => ⟨a, e, .inr h⟩, rfl⟩
theorem ep_tout (K : EpK) {w : World} {S : Nat → Prop} {s : EpS} {A : Option Addr} {n c : Nat} {xs : List Int} (h : EpAt K w S s) (hck : CkOk ⟨1, 0, 2, xs⟩) (hd : D8 w S A n c xs) :
  Calls Try.prog 94 #[.pointer (some ⟨K.s, 0, none⟩), pkV ⟨1, 0, 2, xs⟩ (.slice A n c)] w (EpEnd K w S (s.hear ⟨1, 0, 2, xs⟩)) := by
 have hl := h.lt _ h.own.1
 refine (hear_tok K.s (some K.m) s.nxt (exOf K s.nxt) ⟨1, 0, 2, xs⟩ (.inl rfl) rfl A n c w h.set hck hd.1 (fun q D b w1 w2 => q = pk0 ∧ D = .slice none 0 0 ∧ b = false ∧ Mv (fun i => i = K.s) w1 (fun i => i = K.s) w2 ∧ w2.heap[K.s]? = some (.cells (setC (some K.m) 1 (some ⟨K.O, 0, none⟩)) 98 (0, 0))) (fun w1 hp => ?_)).mono ?_
 ·refine (tok_out K.s (some K.m) K.I K.O n c A xs w1 hp.2 (h.pre hp).look).mono ?_
  rintro e w2 ⟨rfl, hm, hs⟩
  exact ⟨_, _, _, rfl, ⟨rfl, rfl, rfl, hm, hs⟩, fun i h1 h2 => hm.block i h2 (by omega), _, _, _, rfl⟩
 ·rintro e w' ⟨w1, w2, g, q, D, b, hp, ⟨rfl, rfl, rfl, hm, hs⟩, rfl, hW, hg1, hg2⟩
  exact ep_set h hp hm hs hW hg1 (.inr (.inl rfl)) (D8.nil _ _) (.inl rfl) rfl
theorem mv_below {w w' : World} {X : Nat → Prop} (h : Below w.heap.size w w') : Mv X w X w' := (Mv.refl X w).below h
theorem ep_no {K : EpK} {w w' : World} {S : Nat → Prop} {s : EpS} {e : Ending} {r : Option Pk × EpS} (h : EpAt K w S s) (hh : HearT K.s (some K.m) w (NoneT fun a b => b = a) e w') (hr : r = (none, { s with nxt := 0 })) : EpEnd K w S r e w' := by
 obtain ⟨w1, w2, g, q, D, b, hp, ⟨rfl, rfl, rfl, rfl⟩, rfl, hW, hg1, hg2⟩ := hh
 exact ep_set h hp (Mv.refl _ _) hp.2 hW hg1 (.inl rfl) (D8.nil _ _) (.inl rfl) hr
theorem ep_tnak (K : EpK) {w : World} {S : Nat → Prop} {s : EpS} {A : Option Addr} {n c : Nat} {xs : List Int} (h : EpAt K w S s) (hq : s.q = []) (hck : CkOk ⟨9, 0, 1, xs⟩) (hd : D8 w S A n c xs) :
  Calls Try.prog 94 #[.pointer (some ⟨K.s, 0, none⟩), pkV ⟨9, 0, 1, xs⟩ (.slice A n c)] w (EpEnd K w S (s.hear ⟨9, 0, 1, xs⟩)) := by
 have hl := h.lt _ h.own.1
 refine (hear_tok K.s (some K.m) s.nxt (exOf K s.nxt) ⟨9, 0, 1, xs⟩ (.inr rfl) rfl A n c w h.set hck hd.1 (fun q D b w1 w2 => q = ⟨10, 0, 0, []⟩ ∧ D = .slice none 0 0 ∧ b = true ∧ Below w1.heap.size w1 w2) (fun w1 hp => ?_)).mono ?_
 ·obtain ⟨Q, qn, qc, hI, ⟨hl0, hc0, hQ⟩, hrow⟩ := (h.pre hp).inn
  dsimp only at hI hl0 hQ
  rw [hq] at hl0
  obtain rfl : 0 = qn := hl0
  refine (tok_nak K.s (some K.m) K.I K.O n c A xs Q qc K.rI none 0 0 1 true K.mx s.itg w1 hp.2 (h.pre hp).look hI).mono ?_
  rintro e w2 ⟨rfl, hm⟩
  exact ⟨_, _, _, rfl, ⟨rfl, rfl, rfl, hm⟩, fun i h1 h2 => hm.block i h2, _, _, _, rfl⟩
 ·rintro e w' ⟨w1, w2, g, q, D, b, hp, ⟨rfl, rfl, rfl, hm⟩, rfl, hW, hg1, hg2⟩
  refine ep_set h hp (mv_below hm) (heap_below hp.2 hm) hW hg1 (.inl rfl) (D8.nil _ _) (.inl rfl) ?_
  simp [EpS.hear, hq]
theorem ep_tdat (K : EpK) {w : World} {S : Nat → Prop} {s : EpS} {A : Option Addr} {n c : Nat} {xs ys : List Int} {r : List (List Int)} (h : EpAt K w S s) (hq : s.q = ys :: r) (hck : CkOk ⟨9, 0, 1, xs⟩) (hd : D8 w S A n c xs) :
  Calls Try.prog 94 #[.pointer (some ⟨K.s, 0, none⟩), pkV ⟨9, 0, 1, xs⟩ (.slice A n c)] w (EpEnd K w S (s.hear ⟨9, 0, 1, xs⟩)) := by
 have hl := h.lt _ h.own.1
 have hyl : ys.length ≤ 1024 := by
  obtain ⟨Q, qn, qc, hI, ⟨hl0, hc0, hQ⟩, hrow⟩ := h.inn
  rw [hq] at hl0 hQ
  rcases hQ with h0 | ⟨a, rfl, hb, hs, hx⟩
  ·simp at hl0; omega
  ·obtain ⟨A1, n1, c1, hc, hu, hn, hf⟩ := hx 0 ys rfl
   rw [hu.1]; exact hn
 refine (hear_tok K.s (some K.m) s.nxt (exOf K s.nxt) ⟨9, 0, 1, xs⟩ (.inr rfl) rfl A n c w h.set hck hd.1 (fun q D b w1 w2 => Mv (fun i => i = K.s) w1 (fun i => i = K.s) w2 ∧ w2.heap[K.s]? = some (.cells (setC (some K.m) 9 (some ⟨K.I, 0, none⟩)) 98 (0, 0)) ∧ ∃ g c, q = ⟨if s.itg then 11 else 3, 0, 0, ys⟩ ∧ D = .slice (some ⟨g, 0, none⟩) ys.length c ∧ b = true ∧ F8 w2 g ys.length c ys ∧ w1.heap.size ≤ g) (fun w1 hp => ?_)).mono ?_
 ·obtain ⟨Q, qn, qc, hI, ⟨hl0, hc0, hQ⟩, hrow⟩ := (h.pre hp).inn
  dsimp only at hI hl0 hQ
  rw [hq] at hl0 hQ
  rcases hQ with h0 | ⟨a, rfl, hb, hs, hx⟩
  ·simp at hl0; omega
  obtain ⟨A1, n1, c1, hc, hu, hn, hf⟩ := hx 0 ys rfl
  rw [show a.add 0 = a by simp [Addr.add]] at hc
  refine (tok_data K.s (some K.m) K.I K.O n c A xs a qn qc K.rI none 0 0 1 true K.mx s.itg A1 n1 c1 ys w1 hp.2 (h.pre hp).look hI (by simp at hl0; omega) hc hu hn).mono ?_
  rintro e w2 ⟨hm, hs, g, c, rfl, hF, hg⟩
  exact ⟨_, _, _, rfl, ⟨hm, hs, g, c, rfl, rfl, rfl, hF, hg⟩, fun i h1 h2 => hm.block i h2 (by omega), _, _, _, rfl⟩
 ·rintro e w' ⟨w1, w2, g, q, D, b, hp, ⟨hm, hs, gd, cd, rfl, rfl, rfl, hF, hgd⟩, rfl, hW, hg1, hg2⟩
  have hsz := hp.1.size
  have hF' : F8 w' gd ys.length cd ys := hF.heap (fun o ho => (hW.other gd (by omega)).trans ho)
  refine ep_set h hp hm hs hW hg1 (.inr (.inr ⟨rfl, by rw [hq]; simp⟩)) ⟨hF'.u8, .inr ⟨_, rfl, fun hS => by have := h.lt _ hS; dsimp only at this; omega⟩⟩ (.inr ⟨_, rfl, by dsimp only; omega⟩) ?_
  simp [EpS.hear, hq, hyl]
theorem add_add1 (a : Addr) (j : Nat) : (a.add 1).add j = a.add (j + 1) := by
 unfold Addr.add
 split
 ·subst j; rfl
 ·simp; omega
theorem QAt.tail {K : EpK} {w : World} {S : Nat → Prop} {a Q' : Addr} {qc : Nat} {x : List Int} {r : List (List Int)} (h : QAt K w S (some a) (r.length + 1) qc (x :: r)) (hQ : Q' = a.add 1 ∨ (r.length = 0 ∧ Q' = a)) : QAt K w S (some Q') r.length (qc - 1) r := by
 obtain ⟨_, h2, h3⟩ := h
 refine ⟨rfl, by omega, ?_⟩
 rcases Nat.eq_zero_or_pos r.length with h0 | h0
 ·exact .inl h0
 rcases hQ with rfl | ⟨h1, _⟩
 ·rcases h3 with h3 | ⟨a', e, hb, hs, hx⟩
  ·omega
  cases e
  refine .inr ⟨_, rfl, by rw [add_block']; exact hb, by rw [add_block']; exact hs, fun j xs hj => ?_⟩
  rw [add_add1]
  exact hx (j + 1) xs (by simpa using hj)
 ·omega
theorem ep_dno (K : EpK) {w : World} {S : Nat → Prop} {s : EpS} {p : Pk} {A : Option Addr} {n c : Nat} (h : EpAt K w S s) (hp : p.pid = 3 ∨ p.pid = 11) (ha : p.addr = 0) (hn : s.nxt = 0 ∨ s.nxt = 9) (hck : CkOk p) (hd : D8 w S A n c p.data) :
  Calls Try.prog 94 #[.pointer (some ⟨K.s, 0, none⟩), pkV p (.slice A n c)] w (EpEnd K w S (s.hear p)) := by
 refine (hear_dno K.s (some K.m) s.nxt (exOf K s.nxt) p hp ha A n c w h.set hck hd.1 hn).mono fun e w' hh => ep_no h hh ?_
 unfold EpS.hear
 rw [if_neg (by omega), if_neg (by omega), if_neg (by omega), if_neg (by omega)]
theorem ep_ano (K : EpK) {w : World} {S : Nat → Prop} {s : EpS} {p : Pk} {A : Option Addr} {n c : Nat} (h : EpAt K w S s) (hp : p.pid = 2) (ha : p.addr = 0) (hn : s.nxt = 0 ∨ s.nxt = 1) (hck : CkOk p) (hd : D8 w S A n c p.data) :
  Calls Try.prog 94 #[.pointer (some ⟨K.s, 0, none⟩), pkV p (.slice A n c)] w (EpEnd K w S (s.hear p)) := by
 refine (hear_ano K.s (some K.m) s.nxt (exOf K s.nxt) p hp ha A n c w h.set hck hd.1 hn).mono fun e w' hh => ep_no h hh ?_
 unfold EpS.hear
 rw [if_neg (by omega), if_neg (by omega), if_pos hp, if_neg (by omega)]
theorem ep_dat0 (K : EpK) {w : World} {S : Nat → Prop} {s : EpS} {p : Pk} {A : Option Addr} {n c : Nat} (h : EpAt K w S s) (hp : p.pid = 3 ∨ p.pid = 11) (ha : p.addr = 0) (hl : p.data.length ≤ K.mx) (hn : s.nxt = 1) (hck : CkOk p) (hd : D8 w S A n c p.data) (r : Int) (hr : (r = 2 ∧ (p.pid == 11) = (!s.otg)) ∨ (r = 10 ∧ (p.pid == 11) = s.otg ∧ s.room = 0)) :
  Calls Try.prog 94 #[.pointer (some ⟨K.s, 0, none⟩), pkV p (.slice A n c)] w (EpEnd K w S (s.hear p)) := by
 have hset := h.set
 rw [hn] at hset
 refine (hear_dat K.O (fun q D b w1 w2 => q = ⟨r, 0, 0, []⟩ ∧ D = .slice none 0 0 ∧ b = true ∧ Below w1.heap.size w1 w2) K.s (some K.m) p hp ha A n c w hset hck hd.1 (fun w1 hp1 => ?_)).mono ?_
 ·obtain ⟨T, tn, tc, hO, hT, h1, h2⟩ := (h.pre hp1).out
  refine (wr_no K.O none 0 0 s.room T tn tc 2 false K.mx s.otg p A n c w1 hO (by have := hd.1.1; omega) r hr).mono ?_
  rintro e w2 ⟨rfl, hm⟩
  exact ⟨_, _, _, rfl, ⟨rfl, rfl, rfl, hm⟩, fun i h1 h2 => hm.block i h2, _, _, _, rfl⟩
 ·rintro e w' ⟨w1, w2, g, q, D, b, hp1, ⟨rfl, rfl, rfl, hm⟩, rfl, hW, hg1, hg2⟩
  refine ep_set h hp1 (mv_below hm) (heap_below hp1.2 hm) hW hg1 (.inl rfl) (D8.nil _ _) (.inl rfl) ?_
  unfold EpS.hear
  rw [if_neg (by omega), if_neg (by omega), if_neg (by omega), if_pos hn]
  rcases hr with ⟨rfl, hr⟩ | ⟨rfl, hr, h0⟩
  ·rw [if_pos hr]; rfl
  ·rw [if_neg (by rw [hr]; cases s.otg <;> simp), if_pos h0]; rfl
theorem ep_dat1 (K : EpK) {w : World} {S : Nat → Prop} {s : EpS} {p : Pk} {A : Option Addr} {n c : Nat} (h : EpAt K w S s) (hp : p.pid = 3 ∨ p.pid = 11) (ha : p.addr = 0) (hl : p.data.length ≤ K.mx) (hn : s.nxt = 1) (hck : CkOk p) (hd : D8 w S A n c p.data) (htg : (p.pid == 11) = s.otg) (hr : s.room ≠ 0) :
  Calls Try.prog 94 #[.pointer (some ⟨K.s, 0, none⟩), pkV p (.slice A n c)] w (EpEnd K w S (s.hear p)) := by
 have hset := h.set
 rw [hn] at hset
 have hne := K.ne
 have hlt := K.lt
 have hbs := h.base
 have hr1 : s.room = 1 := h.out.elim fun _ h => h.elim fun _ h => h.elim fun _ h => h.2.2.1.resolve_left hr
 refine (hear_dat K.O (fun q D b w1 w2 => q = ⟨2, 0, 0, []⟩ ∧ D = .slice none 0 0 ∧ b = true ∧ Mv (fun i => i = K.O) w1 (fun i => i = K.O) w2 ∧ ∃ T tc, w2.heap[K.O]? = some (.cells (epC none 0 0 (s.room - 1) T 1 tc 2 false 2 K.mx (!s.otg) false) 91 (0, 0)) ∧ OneTaken w1.heap.size w2 T tc p.data ∧ (∀ g1, T = some ⟨g1, 0, none⟩ → w1.heap.size ≤ g1)) K.s (some K.m) p hp ha A n c w hset hck hd.1 (fun w1 hp1 => ?_)).mono ?_
 ·obtain ⟨T, tn, tc, hO, hT, h1, h2⟩ := (h.pre hp1).out
  dsimp only at h2 hT hO
  rw [h2 hr1] at hT
  obtain ⟨rfl, rfl, rfl⟩ := hT
  have hsz := hp1.1.size
  refine (wr_take K.O none 0 0 s.room 2 false K.mx s.otg p A n c w1 hO (by have := hd.1.1; omega) K.hm (by omega) htg ((hd.mv (hp1.1.widen (fun i e => e ▸ h.own.1))).1)).mono ?_
  rintro e w2 ⟨rfl, hm, T, tc, hO2, hT, hge⟩
  exact ⟨_, _, _, rfl, ⟨rfl, rfl, rfl, hm, T, tc, hO2, hT, hge⟩, fun i h1 h2 => hm.block i h2 (by omega), _, _, _, rfl⟩
 ·rintro e w' ⟨w1, w2, g, q, D, b, hp1, ⟨rfl, rfl, rfl, hm, T, tc, hO2, ⟨g1, gd, cd, rfl, htc, hcell, hF, hl1, hgd⟩, hge⟩, rfl, hW, hg1, hg2⟩
  have hge := hge g1 rfl
  have hsz := hp1.1.size
  have hl2 := (Array.getElem?_eq_some_iff.1 hF.2.2.2.choose_spec.1).1
  have hmv : Mv (fun i => i = K.s ∨ i = K.O) w (fun i => i = K.s ∨ i = K.O) w' := ((hp1.1.widen fun i e => .inl e).trans (hm.widen fun i e => .inr e)).wrote hW hg1
  have hO3 := (hW.other K.O (by omega)).trans hO2
  have hS3 := (hW.other K.s (by omega)).trans ((hm.block K.s (by omega) (by omega)).trans hp1.2)
  have hEp : EpAt K w' (fun i => S i ∨ i = g1 ∨ i = gd) { s with nxt := 0, room := s.room - 1, tk := some p.data, otg := !s.otg } := by
   refine ⟨hS3, .inl rfl, fun e => by simp at e, h.inn.keep (hmv.block _ (by omega) (by omega)) (fun i hi hs => hmv.block i (by omega) (fun e => hs (.inl (e.elim (fun e => e ▸ h.own.1) (fun e => e ▸ h.own.2.2.1))))) (fun i hi hs => hs.imp (fun hs => Or.resolve_right (show S i ∨ i = g1 ∨ i = gd from hs) (by omega)) id), ⟨_, 1, tc, hO3, ⟨rfl, g1, gd, cd, rfl, htc, (World.cell?_of_block (a := ⟨g1, 0, none⟩) (hW.other g1 (by omega))).trans hcell, hF.heap (fun o ho => (hW.other gd (by omega)).trans ho), ⟨.inr (.inl rfl), .inr (.inr rfl)⟩, by omega, by omega⟩, .inl (by dsimp only; omega), fun e => by dsimp only at e; omega⟩, (hmv.block _ (by omega) (by omega)).trans h.map, ⟨.inl h.own.1, .inl h.own.2.1, .inl h.own.2.2.1, fun hs => hs.elim h.own.2.2.2 (by omega)⟩, fun i hi => ?_, Nat.le_trans hbs hmv.size, ⟨fun i hf => ⟨(h.far.1 i hf).1, fun hs => hs.elim (h.far.1 i hf).2 (by have := (h.far.1 i hf).1; omega)⟩, h.far.2⟩⟩
   have hs2 := hW.size
   rcases hi with hi | rfl | rfl
   ·exact Nat.lt_of_lt_of_le (h.lt i hi) hmv.size
   ·omega
   ·omega
  refine ⟨_, _, true, none, 0, 0, rfl, ?_, ⟨hmv.os, hmv.tape, hmv.output, hmv.size, fun i hi hs => hmv.block i hi (fun e => hs (e.elim (fun e => e ▸ h.own.1) (fun e => e ▸ h.own.2.2.1))), fun i hi hs => Or.resolve_right (show S i ∨ i = g1 ∨ i = gd from hs) (by omega)⟩, D8.nil _ _, .inl rfl, ?_⟩
  rotate_left
  ·unfold EpS.hear
   rw [if_neg (by omega), if_neg (by omega), if_neg (by omega), if_pos hn, if_neg (by rw [htg]; cases s.otg <;> simp), if_neg hr]
   rfl
  ·have : (s.hear p).2 = { s with nxt := 0, room := s.room - 1, tk := some p.data, otg := !s.otg } := by
    unfold EpS.hear
    rw [if_neg (by omega), if_neg (by omega), if_neg (by omega), if_pos hn, if_neg (by rw [htg]; cases s.otg <;> simp), if_neg hr]
   rw [this]
   exact hEp
theorem ep_ack (K : EpK) {w : World} {S : Nat → Prop} {s : EpS} {p : Pk} {A : Option Addr} {n c : Nat} (h : EpAt K w S s) (hp : p.pid = 2) (ha : p.addr = 0) (hn : s.nxt = 9) (hck : CkOk p) (hd : D8 w S A n c p.data) :
  Calls Try.prog 94 #[.pointer (some ⟨K.s, 0, none⟩), pkV p (.slice A n c)] w (EpEnd K w S (s.hear p)) := by
 have hset := h.set
 rw [hn] at hset
 have hne := K.ne
 have hlt := K.lt
 have hbs := h.base
 refine (hear_ack K.I (fun w1 w2 => Wrote K.I w1 w2 ∧ InAt K w2 (fun i => S i ∨ K.F i) s.q.tail (!s.itg)) K.s (some K.m) p hp ha A n c w hset hck hd.1 (fun w1 hp1 => ?_)).mono ?_
 ·obtain ⟨Q, qn, qc, hI, ⟨hl0, hc0, hQ⟩, hrow⟩ := (h.pre hp1).inn
  dsimp only at hI hl0 hQ
  have hsz := hp1.1.size
  rcases hq : s.q with _ | ⟨ys, r⟩
  ·exact absurd hq (h.wait hn)
  rw [hq] at hl0 hQ
  rcases hQ with h0 | ⟨a, rfl, hb, hs, hx⟩
  ·simp at hl0; omega
  obtain rfl : r.length + 1 = qn := hl0
  refine (ack_ret K.I a r.length qc K.rI none 0 0 1 true 2 K.mx s.itg false w1 hI hc0).mono ?_
  rintro e w2 ⟨rfl, hW, Q', c', hI2, rfl, hQ'⟩
  have hblk : ∀ b : Addr, some Q' = some b → b.block = a.block := fun b e => by
   cases e
   rcases hQ' with rfl | ⟨_, rfl⟩
   ·exact add_block' a 1
   ·rfl
  refine ⟨rfl, ⟨hW, some Q', r.length, qc - 1, hI2, ?_, ?_, fun b e => by rw [hblk b e]; exact hrow.2 a rfl⟩, fun i h1 h2 => hW.other i (by omega)⟩
  rotate_left
  ·obtain ⟨vs, hv⟩ := hrow.1
   rcases vs with _ | ⟨v, vs⟩
   ·have := hv.1; simp at this
   have hne2 : a.block ≠ K.I := fun e => (hrow.2 a rfl).2 (.inl (e ▸ h.own.2.1))
   rcases hQ' with rfl | ⟨h0, rfl⟩
   ·exact ⟨vs, (RowAt.tail hv).keep fun b e => by rw [show b.block = a.block by cases e; exact add_block' a 1]; exact hW.other _ hne2⟩
   ·rw [h0] at hv ⊢
    have hvs : vs = [] := by have := hv.1; simpa using this
    subst hvs
    exact ⟨[], (RowAt.none1 hv).keep fun b e => by cases e; exact hW.other _ hne2⟩
  exact (QAt.tail ⟨rfl, hc0, .inr ⟨a, rfl, hb, hs, hx⟩⟩ hQ').keep (fun i hi hs => hW.other i (fun e => hs (.inl (e ▸ h.own.2.1)))) (fun _ _ h => h)
 ·rintro e w' ⟨w1, w2, g, q, D, b, hp1, ⟨rfl, rfl, rfl, hWI, hIn⟩, rfl, hW, hg1, hg2⟩
  have hsz := hp1.1.size
  have hs2 := hWI.size
  have hmv : Mv (fun i => i = K.s ∨ i = K.I) w (fun i => i = K.s ∨ i = K.I) w' := ((hp1.1.widen fun i e => .inl e).trans (Mv.widen (X := fun i => i = K.I) ⟨hWI.os, hWI.tape, hWI.output, Nat.le_of_eq hWI.size.symm, fun i _ hs => hWI.other i hs, fun _ _ h => h⟩ fun i e => .inr e)).wrote hW hg1
  have hS3 := (hW.other K.s (by omega)).trans ((hWI.other K.s (by omega)).trans hp1.2)
  have hEp : EpAt K w' S { s with nxt := 0, q := s.q.tail, itg := !s.itg } :=
   ⟨hS3, .inl rfl, fun e => by simp at e, hIn.keep (hW.other _ (by omega)) (fun i hi _ => hW.other i (by omega)) (fun _ _ h => h), h.out.keep (hmv.block _ (by omega) (by omega)) (fun i hi h1 h2 _ => hmv.block i (h.lt i hi) (by omega)) (fun _ h => h), (hmv.block _ (by omega) (by omega)).trans h.map, h.own, fun i hi => Nat.lt_of_lt_of_le (h.lt i hi) hmv.size, Nat.le_trans hbs hmv.size, h.far⟩
  have hr : s.hear p = (none, { s with nxt := 0, q := s.q.tail, itg := !s.itg }) := by
   unfold EpS.hear
   rw [if_neg (by omega), if_neg (by omega), if_pos hp, if_pos hn]
  rw [hr]
  exact ⟨S, _, false, none, 0, 0, rfl, hEp, hmv.widen (fun i e => e.elim (fun e => e ▸ h.own.1) (fun e => e ▸ h.own.2.1)), D8.nil _ _, .inl rfl, rfl⟩
theorem ep_hear (K : EpK) {w : World} {S : Nat → Prop} {s : EpS} {p : Pk} {A : Option Addr} {n c : Nat} (h : EpAt K w S s) (hp : PkOk K p) (hd : D8 w S A n c p.data) :
  Calls Try.prog 94 #[.pointer (some ⟨K.s, 0, none⟩), pkV p (.slice A n c)] w (EpEnd K w S (s.hear p)) := by
 obtain ⟨ha, hck, hp⟩ := hp
 rcases hp with ⟨h1, h2⟩ | ⟨h1, h2⟩ | h1 | ⟨h1, h2⟩
 ·obtain ⟨pid, ad, en, xs⟩ := p
  dsimp only at ha h1 h2 hd
  subst ha h1 h2
  exact ep_tout K h hck hd
 ·obtain ⟨pid, ad, en, xs⟩ := p
  dsimp only at ha h1 h2 hd
  subst ha h1 h2
  rcases hq : s.q with _ | ⟨ys, r⟩
  ·exact ep_tnak K h hq hck hd
  ·exact ep_tdat K h hq hck hd
 ·rcases h.nxt with hn | hn | hn
  ·exact ep_ano K h h1 ha (.inl hn) hck hd
  ·exact ep_ano K h h1 ha (.inr hn) hck hd
  ·exact ep_ack K h h1 ha hn hck hd
 ·rcases h.nxt with hn | hn | hn
  ·exact ep_dno K h h1 ha (.inl hn) hck hd
  ·by_cases ht : (p.pid == 11) = s.otg
   ·by_cases hr : s.room = 0
    ·exact ep_dat0 K h h1 ha h2 hn hck hd 10 (.inr ⟨rfl, ht, hr⟩)
    ·exact ep_dat1 K h h1 ha h2 hn hck hd ht hr
   ·exact ep_dat0 K h h1 ha h2 hn hck hd 2 (.inl ⟨rfl, by revert ht; cases (p.pid == 11) <;> cases s.otg <;> simp⟩)
  ·exact ep_dno K h h1 ha (.inr hn) hck hd
end Go.Proofs.Ythifcblajimppaa
