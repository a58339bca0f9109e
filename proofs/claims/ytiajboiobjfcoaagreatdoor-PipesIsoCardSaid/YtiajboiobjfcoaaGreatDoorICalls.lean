/-
  What is proved here: the calls of the law's first run: wire, run and pipes.End, in any world that has what they need; and of its second run.
  Conditions: what the device's, the packets' and the faults' cells hold at the beginning.
-/
import Derived.Test.YtiajboiobjfcoaaGreatDoorIBeg
namespace Go.Proofs.YtiajboiobjfcoaaGreatDoor
open Go.Proofs Go.RowKit
def Has (wC w : World) (bs : List (Nat × Obj)) : Prop := ∀ p ∈ bs, w.heap[p.1]? = some p.2 ∧ wC.heap.size ≤ p.1
theorem Has.keep {wC w w' : World} {bs : List (Nat × Obj)} (h : Has wC w bs) (hk : ∀ p ∈ bs, w'.heap[p.1]? = w.heap[p.1]?) : Has wC w' bs := fun p hp => ⟨(hk p hp).trans (h p hp).1, (h p hp).2⟩
theorem Has.lt {wC w : World} {bs : List (Nat × Obj)} (h : Has wC w bs) {p : Nat × Obj} (hp : p ∈ bs) : p.1 < w.heap.size := (Array.getElem?_eq_some_iff.1 (h p hp).1).1
theorem Has.below {wC w w' : World} {bs : List (Nat × Obj)} (h : Has wC w bs) (hb : Below w.heap.size w w') : Has wC w' bs := h.keep fun _ hp => hb.block _ (h.lt hp)
theorem Has.alloc {wC w : World} {bs : List (Nat × Obj)} (h : Has wC w bs) (hs : wC.heap.size ≤ w.heap.size) (o : Obj) : Has wC (w.alloc o) ((w.heap.size, o) :: bs) := by
 intro p hp
 rcases List.mem_cons.1 hp with rfl | hp
 ·exact ⟨heap_alloc_new w o, hs⟩
 ·exact (h.below ((Below.refl _ w).alloc (Nat.le_refl _) o)) p hp
structure Kp (G : Nat) (w w' : World) : Prop where
 os : w'.os = w.os
 tape : w'.tape = w.tape
 output : w'.output = w.output
 size : w.heap.size ≤ w'.heap.size
 block : ∀ i, i < w.heap.size → i ≠ G → w'.heap[i]? = w.heap[i]?
theorem Kp.below {G : Nat} {a b c : World} (h : Kp G a b) (k : Below b.heap.size b c) : Kp G a c :=
 ⟨k.os.trans h.os, k.tape.trans h.tape, k.output.trans h.output, Nat.le_trans h.size k.size, fun i hi hg => (k.block i (Nat.lt_of_lt_of_le hi h.size)).trans (h.block i hi hg)⟩
theorem Kp.heap {G : Nat} {a b : World} (h : Kp G a b) {g : Nat} {o : Obj} (hg : a.heap[g]? = some o) (hne : g ≠ G) : b.heap[g]? = some o := (h.block g (Array.getElem?_eq_some_iff.1 hg).1 hne).trans hg
theorem Kp.to {G B : Nat} {a b : World} (h : Kp G a b) (hB : B ≤ a.heap.size) (hG : B ≤ G) : Below B a b := ⟨h.os, h.tape, h.output, h.size, fun i hi => h.block i (by omega) (by omega)⟩
theorem Mv.kp {S S' : Nat → Prop} {G : Nat} {a b c : World} (hb : Below a.heap.size a b) (h : Mv S b S' c) (hS : ∀ i, S i → i = G ∨ a.heap.size ≤ i) : Kp G a c :=
 ⟨h.os.trans hb.os, h.tape.trans hb.tape, h.output.trans hb.output, Nat.le_trans hb.size h.size, fun i hi hne => (h.block i (Nat.lt_of_lt_of_le hi hb.size) (fun hs => (hS i hs).elim hne (fun h => by omega))).trans (hb.block i hi)⟩
def kOf (inn : Bool) (T : Option Addr) (ln tc : Nat) (vs : List Value) (offs : List (List Int)) : GrK := ⟨2, inn, true, [], none, 0, 0, offs, vs, T, ln, tc⟩
def s00 : GrS := ⟨false, 0, 0, false, false, [], 0⟩
def P0 (wC w : World) (bs : List (Nat × Obj)) : Prop := Below wC.heap.size wC w ∧ Has wC w bs
theorem P0.alloc {wC w : World} {bs : List (Nat × Obj)} (h : P0 wC w bs) (o : Obj) : P0 wC (w.alloc o) ((w.heap.size, o) :: bs) := ⟨h.1.trans (((Below.refl _ w).alloc (Nat.le_refl _) o).mono h.1.size), h.2.alloc h.1.size o⟩
def P1 (wC : World) (t : List Int) (L R : Nat) (w : World) (bs : List (Nat × Obj)) : Prop :=
 Below wC.heap.size wC w ∧ LineAt L R w t ∧ wC.heap.size ≤ L ∧ wC.heap.size ≤ R ∧ Has wC w bs ∧ ∀ p ∈ bs, p.1 ≠ L ∧ p.1 ≠ R
theorem LineAt.lt {L R : Nat} {w : World} {t : List Int} (h : LineAt L R w t) : L < w.heap.size ∧ R < w.heap.size := by
 obtain ⟨A, n, c, h1, _, _, _, hR, _⟩ := h
 exact ⟨(Array.getElem?_eq_some_iff.1 h1).1, hR⟩
theorem P1.alloc {wC w : World} {t : List Int} {L R : Nat} {bs : List (Nat × Obj)} (h : P1 wC t L R w bs) (o : Obj) : P1 wC t L R (w.alloc o) ((w.heap.size, o) :: bs) := by
 obtain ⟨h1, h2, h3, h4, h5, h6⟩ := h
 have hb := (Below.refl w.heap.size w).alloc (Nat.le_refl _) o
 have hl := h2.lt
 refine ⟨h1.trans (hb.mono h1.size), h2.keep (fun i hi => hb.block i (by omega)), h3, h4, h5.alloc h1.size o, fun p hp => ?_⟩
 rcases List.mem_cons.1 hp with rfl | hp
 ·exact ⟨by show w.heap.size ≠ L; omega, by show w.heap.size ≠ R; omega⟩
 ·exact h6 p hp
theorem wire_c {wC w : World} {bs : List (Nat × Obj)} (h : P0 wC w bs) (A : Option Addr) (n c : Nat) (fs : List Int) (hu : U8 wC A n c fs) (hn : n ≤ 1000) :
  Calls Tryz.prog 9 #[.slice A n c] w fun e w' => ∃ L R, e = .returned (.pointer (some ⟨L, 0, none⟩)) ∧ P1 wC (fs.map faultOf) L R w' bs := by
 refine (wire_ret A n c fs w (hu.below h.1) hn).mono ?_
 rintro e w' ⟨L, R, rfl, hL, hb, h1, h2⟩
 have hs := h.1.size
 exact ⟨L, R, rfl, h.1.trans (hb.mono hs), hL, by omega, by omega, h.2.below hb, fun p hp => by have := h.2.lt hp; omega⟩
def GFin (G : Nat) (K : GrK) (s : GrS) (w : World) : Prop := ∃ A c, w.heap[G]? = some (.cells (grCells K (.slice A s.taken.length c) s) 34 (0, 0))
def P2 (wC : World) (G : Nat) (inn : Bool) (ln : Nat) (K : GrK) (Fin : (Nat → Int) → (Nat → List Int) → Int → GrS → Prop) (V : Array Value) (w : World) (bs : List (Nat × Obj)) : Prop :=
 Kp G wC w ∧ Has wC w bs ∧ ∃ e d tot s PA pn pc m0 gX xc IA im ic out us, Fin e d tot s ∧ GFin G K s w ∧ V = isoV inn PA pn pc m0 ln (some ⟨gX, 0, none⟩) ln xc IA im ic out ∧ Pcs w (some ⟨gX, 0, none⟩) ln xc us ∧ PcsD w us ln e d ∧ (im : Int) + out = tot ∧ (0 ≤ tot ∧ tot ≤ 1000000) ∧ (∀ i, (d i).length ≤ 1024)
theorem P2.alloc {wC w : World} {G ln : Nat} {inn : Bool} {K : GrK} {Fin : (Nat → Int) → (Nat → List Int) → Int → GrS → Prop} {V : Array Value} {bs : List (Nat × Obj)} (h : P2 wC G inn ln K Fin V w bs) (o : Obj) : P2 wC G inn ln K Fin V (w.alloc o) ((w.heap.size, o) :: bs) := by
 obtain ⟨h1, h2, e, d, tot, s, PA, pn, pc, m0, gX, xc, IA, im, ic, out, us, h3, ⟨A, c, h4⟩, h5, h6, h7, h8⟩ := h
 have hb := (Below.refl w.heap.size w).alloc (Nat.le_refl _) o
 exact ⟨h1.below hb, h2.alloc h1.size o, e, d, tot, s, PA, pn, pc, m0, gX, xc, IA, im, ic, out, us, h3, ⟨A, c, heap_below h4 hb⟩, h5, h6.to (h6.lt.imp id fun hl a ea => hb.block _ (hl a ea)), h7.below fun g o ho _ => heap_below ho hb, h8⟩
def P3 (wC : World) (G : Nat) (_inn : Bool) (ln : Nat) (K : GrK) (Fin : (Nat → Int) → (Nat → List Int) → Int → GrS → Prop) (tot : Int) (g : Nat) (w : World) (bs : List (Nat × Obj)) : Prop :=
 Kp G wC w ∧ Has wC w bs ∧ ∃ e d s us, Fin e d tot s ∧ GFin G K s w ∧ Pcs w (some ⟨g, 0, none⟩) ln ln us ∧ PcsD w us ln e d ∧ wC.heap.size ≤ g ∧ g < w.heap.size ∧ (∀ p ∈ bs, p.1 ≠ g) ∧ (∀ i, (d i).length ≤ 1024) ∧ (0 ≤ tot ∧ tot ≤ 1000000)
theorem P3.alloc {wC w : World} {G ln g : Nat} {tot : Int} {inn : Bool} {K : GrK} {Fin : (Nat → Int) → (Nat → List Int) → Int → GrS → Prop} {bs : List (Nat × Obj)} (h : P3 wC G inn ln K Fin tot g w bs) (o : Obj) : P3 wC G inn ln K Fin tot g (w.alloc o) ((w.heap.size, o) :: bs) := by
 obtain ⟨h1, h2, e, d, s, us, h3, ⟨A, c, h4⟩, h6, h7, h8, h9, h10, h11⟩ := h
 have hb := (Below.refl w.heap.size w).alloc (Nat.le_refl _) o
 refine ⟨h1.below hb, h2.alloc h1.size o, e, d, s, us, h3, ⟨A, c, heap_below h4 hb⟩, h6.to (h6.lt.imp id fun hl a ea => hb.block _ (hl a ea)), h7.below fun g o ho _ => heap_below ho hb, h8, Nat.lt_of_lt_of_le h9 hb.size, fun p hp => ?_, h11⟩
 rcases List.mem_cons.1 hp with rfl | hp
 ·show w.heap.size ≠ g; omega
 ·exact h10 p hp
theorem P3.store {wC w w' : World} {G ln g A : Nat} {T : TypeId} {cs : Array Value} {tot : Int} {inn : Bool} {K : GrK} {Fin : (Nat → Int) → (Nat → List Int) → Int → GrS → Prop} {bs bs' : List (Nat × Obj)} (h : P3 wC G inn ln K Fin tot g w bs) (hA : w.heap[A]? = some (.cells cs T (0, 0))) (hT : T ≠ 5) (hs : wC.heap.size ≤ A) (hAg : A ≠ g) (hG : G < wC.heap.size)
  (hW : Wrote A w w') (hb : Has wC w' bs') (hbg : ∀ p ∈ bs', p.1 ≠ g) : P3 wC G inn ln K Fin tot g w' bs' := by
 obtain ⟨h1, h2, e, d, s, us, h3, ⟨A', c, h4⟩, h6, h7, h8, h9, h10, h11⟩ := h
 refine ⟨⟨hW.os.trans h1.os, hW.tape.trans h1.tape, hW.output.trans h1.output, by rw [hW.size]; exact h1.size, fun i hi hne => (hW.other i (by omega)).trans (h1.block i hi hne)⟩, hb, e, d, s, us, h3, ⟨A', c, (hW.other G (by omega)).trans h4⟩, h6.to (.inr fun a ea => ?_), h7.below fun j o ho hcs => ?_, h8, by rw [hW.size]; exact h9, hbg, h11⟩
 ·cases ea; exact hW.other g (Ne.symm hAg)
 ·refine (hW.other j ?_).trans ho
  rintro rfl
  obtain ⟨cs', rfl⟩ := hcs
  rw [hA] at ho
  injection ho with ho
  injection ho with _ ho
  exact hT ho
theorem P3.box0 {wC w : World} {G ln g a : Nat} {o : Obj} {tot : Int} {inn : Bool} {K : GrK} {Fin : (Nat → Int) → (Nat → List Int) → Int → GrS → Prop} {bs : List (Nat × Obj)} (h : P3 wC G inn ln K Fin tot g w ((a, o) :: bs)) : w.heap[a]? = some o := (h.2.1 _ (List.mem_cons_self ..)).1
theorem P3.box1 {wC w : World} {G ln g a : Nat} {x : Nat × Obj} {o : Obj} {tot : Int} {inn : Bool} {K : GrK} {Fin : (Nat → Int) → (Nat → List Int) → Int → GrS → Prop} {bs : List (Nat × Obj)} (h : P3 wC G inn ln K Fin tot g w (x :: (a, o) :: bs)) : w.heap[a]? = some o := (h.2.1 _ (List.mem_cons_of_mem _ (List.mem_cons_self ..))).1
def end4 (tot : Int) (g ln : Nat) : Array Value := #[.int .i64 0, .slice none 0 0, .int .i64 tot, .slice (some ⟨g, 0, none⟩) ln ln]
def pCells (inn : Bool) : Array Value := #[.int .u8 5, .int .u8 2, .bool inn, .int .u8 1, .int .i64 8, .int .i64 8, .int .u8 1, .int .u8 0, .int .u8 1, .bool false, .bool false]
theorem end_c {wC w : World} {G ln : Nat} {inn : Bool} {K : GrK} {Fin : (Nat → Int) → (Nat → List Int) → Int → GrS → Prop} {V : Array Value} {bs : List (Nat × Obj)} (h : P2 wC G inn ln K Fin V w bs) (hl : 1 ≤ ln ∧ ln ≤ 30) :
  Calls Tryz.prog 17 #[.agg V] w fun e w' => ∃ tot g, e = .returned (.tuple #[.agg (end4 tot g ln), .agg (pCells inn), .bool true]) ∧ P3 wC G inn ln K Fin tot g w' bs := by
 obtain ⟨h1, h2, e, d, tot, s, PA, pn, pc, m0, gX, xc, IA, im, ic, out, us, h3, ⟨A, c, h4⟩, rfl, h6, h7, rfl, h8, h9⟩ := h
 refine (pipe_end inn m0 out ln xc pn pc im ic PA IA gX us e d w hl.1 (by omega) h6 h7 h9 h8).mono ?_
 rintro e' w' ⟨hb, g, us', rfl, hP, hD, hg⟩
 refine ⟨_, g, rfl, h1.below hb, h2.below hb, e, d, s, us', h3, ⟨A, c, heap_below h4 hb⟩, hP, hD, by have := h1.size; omega, ?_, fun p hp => by have := h2.lt hp; omega, h9, h8⟩
 rcases hP.lt with h | h
 ·omega
 ·exact h _ rfl
end Go.Proofs.YtiajboiobjfcoaaGreatDoor
