/-
  What is proved here: the law's read: what the host reads.
  Conditions: what the desk's cells hold; what waits has at most 64 bytes.
-/
import Derived.Test.YthifcblajimppaaDTr
namespace Go.Proofs.Ythifcblajimppaa
open Go.Proofs Go.RowKit
attribute [local go_sem] lt2 lt3 lt4 lt5
theorem EpAt.foreign {K : EpK} {w w' : World} {S X : Nat → Prop} {s : EpS} (h : EpAt K w S s) (hm : Mv X w X w') (hX : ∀ i, i < w.heap.size → X i → K.F i) : EpAt K w' S s := by
 have hk : ∀ i, i < w.heap.size → ¬ K.F i → w'.heap[i]? = w.heap[i]? := fun i hi hf => hm.block i hi (fun hx => hf (hX i hi hx))
 have hs : ∀ i, S i → w'.heap[i]? = w.heap[i]? := fun i hi => hk i (h.lt i hi) (fun hf => (h.far.1 i hf).2 hi)
 have hb := h.base
 have hl := K.lt
 exact ⟨(hs _ h.own.1).trans h.set, h.nxt, h.wait, h.inn.keep (hs _ h.own.2.1) (fun i hi hn => hk i (by omega) (fun hf => hn (.inr hf))) (fun _ _ h => h), h.out.keep (hs _ h.own.2.2.1) (fun i hi _ _ _ => hs i hi) (fun _ h => h), (hk _ (by omega) h.far.2).trans h.map, h.own, fun i hi => Nat.lt_of_lt_of_le (h.lt i hi) hm.size, Nat.le_trans hb hm.size, h.far⟩
theorem EpAt.wroteF {K : EpK} {w w' : World} {S : Nat → Prop} {s : EpS} {g : Nat} (h : EpAt K w S s) (hW : Wrote g w w') (hf : K.F g) : EpAt K w' S s :=
 h.foreign (X := fun i => i = g) ⟨hW.os, hW.tape, hW.output, Nat.le_of_eq hW.size.symm, fun i _ hs => hW.other i hs, fun _ _ h => h⟩ (fun _ _ hx => hx ▸ hf)
def dkC (P s : Nat) (t0 t1 t2 : Bool) (mx : Int) (fr : Bool) : Array Value := #[.pointer (some ⟨P, 0, none⟩), .pointer (some ⟨s, 0, none⟩), .bool t0, .bool t1, .bool t2, .int .i64 mx, .bool fr]
def OutcAt (K : EpK) (w : World) (S : Nat → Prop) (r : (Int × List Int) × EpS) (g : Nat) (wx : World) : Prop :=
 ∃ S' A' n' c', wx.heap[g]? = some (.cells #[.int .u8 r.1.1, .slice A' n' c'] 77 (0, 0)) ∧ w.heap.size ≤ g ∧ ¬ S' g ∧ EpAt K wx S' r.2 ∧ Mv S w S' wx ∧ D8 wx S' A' n' c' r.1.2 ∧ (n' = 0 ∨ ∃ a, A' = some a ∧ w.heap.size ≤ a.block)
theorem EpAt.below {K : EpK} {w w' : World} {S : Nat → Prop} {s : EpS} (h : EpAt K w S s) (hb : Below w.heap.size w w') : EpAt K w' S s := Bus.below (M := epBus K) h hb
theorem EpAt.wrote {K : EpK} {w w' : World} {S : Nat → Prop} {s : EpS} {g : Nat} (h : EpAt K w S s) (hW : Wrote g w w') (h0 : K.B0 ≤ g) (hs : ¬ S g) : EpAt K w' S s := Bus.wrote (M := epBus K) h hW h0 hs
theorem outc_new {K : EpK} {w wc w1 : World} {S S' : Nat → Prop} {r : (Int × List Int) × EpS} {A' : Option Addr} {n' c' : Nat} (hb : Below w.heap.size w wc) (hE : EpAt K w1 S' r.2) (hm : Mv S wc S' w1) (hd : D8 w1 S' A' n' c' r.1.2) (hf : n' = 0 ∨ ∃ a, A' = some a ∧ wc.heap.size ≤ a.block) :
  OutcAt K w S r w1.heap.size (w1.alloc (.cells #[.int .u8 r.1.1, .slice A' n' c'] 77)) :=
 ⟨S', A', n', c', heap_alloc_new w1 _, Nat.le_trans hb.size hm.size, fun hs => by have := hE.lt _ hs; omega, hE.below ((Below.refl _ _).alloc (Nat.le_refl _) _), (((Mv.refl S w).below hb).trans hm).alloc _, hd.below ((Below.refl _ _).alloc (Nat.le_refl _) _), hf.imp id fun ⟨a, e, h⟩ => ⟨a, e, Nat.le_trans hb.size h⟩⟩
theorem outc_old {s0 : EpS} {K : EpK} {w wc w1 w2 : World} {S S' : Nat → Prop} {r : (Int × List Int) × EpS} {A' : Option Addr} {n' c' g : Nat} (hb : Below w.heap.size w wc) (hE0 : EpAt K w S s0) (hE : EpAt K w1 S' r.2) (hm : Mv S wc S' w1) (hd : D8 w1 S' A' n' c' r.1.2) (hf : n' = 0 ∨ ∃ a, A' = some a ∧ wc.heap.size ≤ a.block) (hg : w.heap.size ≤ g) (hgl : g < wc.heap.size)
  (hW : Wrote g w1 w2) (hZ : w2.heap[g]? = some (.cells #[.int .u8 r.1.1, .slice A' n' c'] 77 (0, 0))) : OutcAt K w S r g w2 := by
 have hs : ¬ S' g := hm.out hgl (fun hs => by have := hE0.lt _ hs; omega)
 exact ⟨S', A', n', c', hZ, hg, hs, hE.wrote hW (Nat.le_trans hE0.base hg) hs, (((Mv.refl S w).below hb).trans hm).wrote hW hg, ⟨hd.1.wrote hW (hf.imp id fun ⟨a, e, h⟩ => ⟨a, e, by omega⟩), hd.2⟩, hf.imp id fun ⟨a, e, h⟩ => ⟨a, e, Nat.le_trans hb.size h⟩⟩
theorem Mv.own1 {S S' : Nat → Prop} {w w' : World} {d : Nat} (h : Mv S w S' w') (_hd : d < w.heap.size) : Mv (fun i => S i ∨ i = d) w (fun i => S' i ∨ i = d) w' :=
 ⟨h.os, h.tape, h.output, h.size, fun i hi hs => h.block i hi (fun e => hs (.inl e)), fun i hi hs => hs.imp (h.sub i hi) id⟩
theorem Mv.own2 {S S' : Nat → Prop} {w w' w'' : World} {d : Nat} (h : Mv S w S' w') (hW : Wrote d w' w'') : Mv (fun i => S i ∨ i = d) w (fun i => S' i ∨ i = d) w'' :=
 ⟨hW.os.trans h.os, hW.tape.trans h.tape, hW.output.trans h.output, by rw [hW.size]; exact h.size, fun i hi hs => (hW.other i (fun e => hs (.inr e))).trans (h.block i hi (fun e => hs (.inl e))), fun i hi hs => hs.imp (h.sub i hi) id⟩
def RdEnd (K : EpK) (d P : Nat) (t1 t2 : Bool) (mx : Int) (fr : Bool) (w : World) (S : Nat → Prop) (s : EpS) (e : Ending) (w' : World) : Prop :=
 ∃ S' A n c, e = .returned (.tuple #[.slice A n c, .bool (s.rd.1.1 == 1)]) ∧ EpAt K w' S' s.rd.2 ∧ Mv (fun i => S i ∨ i = d) w (fun i => S' i ∨ i = d) w' ∧ D8 w' S' A n c s.rd.1.2 ∧ (n = 0 ∨ ∃ a, A = some a ∧ w.heap.size ≤ a.block) ∧ ¬ S' d ∧
  w'.heap[d]? = some (.cells (dkC P K.s s.rd.2.itg t1 t2 mx fr) 32 (0, 0))
set_option maxHeartbeats 4000000 in
set_option maxRecDepth 100000 in
theorem read_ret (K : EpK) (d P : Nat) (t1 t2 : Bool) (mx : Int) (fr : Bool) (w : World) (S : Nat → Prop) (s : EpS) (h : EpAt K w S s) (hq : ∀ x ∈ s.q, x.length ≤ 64) (hD : w.heap[d]? = some (.cells (dkC P K.s s.itg t1 t2 mx fr) 32 (0, 0))) (hdF : K.F d) :
    Calls Try.prog 10 #[.pointer (some ⟨d, 0, none⟩), .int .u8 1] w (RdEnd K d P t1 t2 mx fr w S s) := by
  have hdl := (Array.getElem?_eq_some_iff.1 hD).1
  have hdS := (h.far.1 d hdF).2
  have hdo := fun w2 (hb : Below w.heap.size w w2) => ep_in K w2 S s s.itg (h.below hb) hq rfl
  have hbD : Below w.heap.size w w.drew := (Below.refl _ _).drew
  have hbDA : ∀ o, Below w.heap.size w (w.drew.alloc o) := fun o => below_undrew ((Below.refl _ w.drew).alloc (Nat.le_refl _) o)
  have HS := Lib.hid hdS
  have HD := Lib.hid hD
  have hX := hD
  unfold dkC at hX
  have x1 := cell_of hX 1
  have x2 := cell_of hX 2
  have y1 : ∀ o, (w.drew.alloc o).cell? ⟨d, 1, none⟩ = some (.pointer (some ⟨K.s, 0, none⟩)) := fun o => (World.cell?_alloc_lt _ o _ (World.block_lt_of_cell? _ _ x1)).trans x1
  have y2 : ∀ o, (w.drew.alloc o).cell? ⟨d, 2, none⟩ = some (.bool s.itg) := fun o => (World.cell?_alloc_lt _ o _ (World.block_lt_of_cell? _ _ x2)).trans x2
  have z1 : ∀ o, (w.alloc o).cell? ⟨d, 1, none⟩ = some (.pointer (some ⟨K.s, 0, none⟩)) := fun o => (World.cell?_alloc_lt _ o _ (World.block_lt_of_cell? _ _ x1)).trans x1
  have z2 : ∀ o, (w.alloc o).cell? ⟨d, 2, none⟩ = some (.bool s.itg) := fun o => (World.cell?_alloc_lt _ o _ (World.block_lt_of_cell? _ _ x2)).trans x2
  clear hX hD hdS
  go_enter Try.func10, Try.ntmps10
  go_upto_region 4 with fail
  go_cut [7] from 7 to 28 (fun v wx => ∃ g, v = .pointer (some ⟨g, 0, none⟩) ∧ OutcAt K w S s.rd g wx)
  case first =>
    go_upto_region 4 with fail
    go_region_with (go_at_call 27; first
      | (refine (hdo _ hbD).mono ?_; rintro e w1 ⟨S1, A1, n1, c1, sA, sn, sc, rfl, hE1, hm1, hd1, hf1⟩)
      | (refine (hdo _ (hbDA _)).mono ?_; rintro e w1 ⟨S1, A1, n1, c1, sA, sn, sc, rfl, hE1, hm1, hd1, hf1⟩
         have hbx : w1.heap[w.heap.size]? = some (.cells #[.int .u8 0, .slice none 0 0] 77 (0, 0)) := hm1.heap (heap_alloc_new w.drew _) (fun hs => by have := h.lt _ hs; exact Nat.lt_irrefl _ this)
         have u0 := cell_of hbx 0; have u1 := cell_of hbx 1; have v0 := frozen_of hbx 0; have v1 := frozen_of hbx 1))
    all_goals
      go_wp2_with fail
      go_meet
      first
        | (have _t := hbx
           have hP := ((Put1.refl hbx).set 0 (.int .u8 s.rd.1.1)).set 1 (.slice A1 n1 c1)
           exact ⟨_, rfl, outc_old (hbDA _) h hE1 hm1 hd1 hf1 (Nat.le_refl _) (by simp) hP.wrote hP.heap⟩)
        | exact ⟨_, rfl, outc_new hbD hE1 hm1 hd1 hf1⟩
  case rest =>
    obtain ⟨g, rfl, S1, A1, n1, c1, hO, hg, hgs, hE1, hm1, hd1, hf1⟩ := hcut
    have hD1 := hm1.heap HD.out HS.out
    have hsd := hm1.out hdl HS.out
    have o0 := cell_of hO 0
    have o1 := cell_of hO 1
    have hX1 := hD1
    unfold dkC at hX1
    have q2 := cell_of hX1 2
    have f2 := frozen_of hX1 2
    have HX1 := Lib.hid hX1
    clear hX1 hdo hbDA y1 y2 z1 z2 x1 x2
    rcases hq0 : s.q with _ | ⟨xs, r⟩
    · have hr : s.rd = ((2, []), { s with nxt := 0 }) := by unfold EpS.rd; rw [hq0]
      rw [hr] at o0 hE1 hd1
      have HR := Lib.hid hr
      clear hq0 hr hO
      dsimp only at o0 hE1 hd1
      go_wp2_with fail
      go_ret2
      unfold RdEnd
      rw [HR.out]
      exact ⟨S1, none, 0, 0, rfl, hE1, hm1.own1 hdl, D8.nil _ _, .inl rfl, hsd, hD1⟩
    · have hr : s.rd = ((1, xs), { s with nxt := 0, q := r, itg := !s.itg }) := by unfold EpS.rd; rw [hq0]
      rw [hr] at o0 hE1 hd1
      have HR := Lib.hid hr
      clear hq0 hr
      dsimp only at o0 hE1 hd1
      go_upto_region 7 with fail
      go_region
      have hP := (Put1.refl HX1.out).set 2 (.bool (!s.itg))
      obtain ⟨w2, hw2⟩ : ∃ w2, (wc.setCell ⟨d, 2, none⟩ (.bool (!s.itg))).drew = w2 := ⟨_, rfl⟩
      have hPh : w2.heap[d]? = some (.cells (dkC P K.s (!s.itg) t1 t2 mx fr) 32 (0, 0)) := by rw [← hw2]; exact hP.heap
      have hPw : Wrote d wc w2 := by rw [← hw2]; exact hP.wrote.drew
      rw [hw2]
      clear hw2 hP q2 f2 o0 o1
      have hO2 := (hPw.other g (by omega)).trans hO
      have o1 := cell_of hO2 1
      go_wp2_with fail
      go_ret2
      unfold RdEnd
      rw [HR.out]
      exact ⟨S1, A1, n1, c1, rfl, hE1.wroteF hPw hdF, hm1.own2 hPw, ⟨hd1.1.wrote hPw (hf1.imp id fun ⟨a, e, h⟩ => ⟨a, e, by omega⟩), hd1.2⟩, hf1, hsd, hPh⟩
end Go.Proofs.Ythifcblajimppaa
