/-
  What is proved here: the calls of the law's run, in any world that has what it needs.
  Conditions: what the device's, the packets' and the faults' cells hold at the beginning.
-/
import Derived.Test.YtiajboiobjfcoaaGreatDoorICalls
namespace Go.Proofs.YtiajboiobjfcoaaGreatDoor
open Go.Proofs Go.RowKit
def FinOut (offs : List (List Int)) (ln : Nat) (t : List Int) (e : Nat → Int) (_d : Nat → List Int) (tot : Int) (s : GrS) : Prop :=
 (∀ i, e i = 0) ∧ tot = (sumTo offs ln : Int) ∧ s.taken.length ≤ sumTo offs ln ∧ (t = [] → s.taken.length = sumTo offs ln)
def FinIn (offs : List (List Int)) (ln : Nat) (t : List Int) (e : Nat → Int) (d : Nat → List Int) (tot : Int) (_s : GrS) : Prop :=
 ∃ nx : Nat → Nat, nx 0 = 0 ∧ (∀ k, k < ln → nx k ≤ nx (k + 1) ∧ (e k ≠ 0 → d k = []) ∧ (e k = 0 → nx k < ln ∧ nx (k + 1) = nx k + 1 ∧ d k = offs[nx k]?.getD [])) ∧ (t = [] → ∀ k, k < ln → e k = 0) ∧ tot = (sumTo ((List.range ln).map d) ln : Int)
theorem noPieces_d (w : World) : ∀ k, PcsD w (noPieces k) k (fun _ => 0) (fun _ => [])
 | 0 => ⟨rfl, fun i hi => by omega⟩
 | k + 1 => (noPieces_d w k).snoc (.slice none 0 0) (.inl ⟨rfl, rfl⟩)
theorem own_len {w : World} {B n : Nat} {e : TypeId} {v : Value} {xs : List Value} (h : w.ownsRow B e 1 v n xs) : ∃ A c, v = .slice A n c := by
 rcases h.2 with ⟨rfl, rfl⟩ | ⟨g, cap, cur, rfl, _⟩
 ·exact ⟨none, 0, rfl⟩
 ·exact ⟨_, cap, rfl⟩
theorem gfin {K : GrK} {G B0 B1 : Nat} {W : Wire B0} {w : World} {S : Nat → Prop} {s : W.τ × GrS} (h : BusI K G B0 B1 W w S s) : GFin G K s.2 w := by
 obtain ⟨tv, hg, _⟩ := h
 obtain ⟨A, c, e⟩ := own_len hg.own
 exact ⟨A, c, by rw [← e]; exact hg.box⟩
structure Start (K : GrK) (G : Nat) (wC : World) : Prop where
 lt : G < wC.heap.size
 box : wC.heap[G]? = some (.cells (grCells K (.slice none 0 0) s00) 34 (0, 0))
 lists : GrL K G wC.heap.size wC
 iso : K.iso = true
 endp : K.endp = 2
 off : ∀ b ∈ K.offs, b.length ≤ 8
theorem start_I {K : GrK} {G B1 : Nat} {wC w : World} (hS : Start K G wC) (W : Wire wC.heap.size) (t : W.τ) (hb : Below wC.heap.size wC w) (hB1 : B1 ≤ w.heap.size) (hh : W.holds w t) :
  BusI K G wC.heap.size B1 W w (fun i => i = G ∨ W.own i) (t, s00) :=
 ⟨.slice none 0 0, ⟨(hb.block _ hS.lt).trans hS.box, World.ownsRow_nil _ _ _ _, fun x hx => by simp [s00] at hx, hS.lists.far fun i hi => hb.block i hi.1⟩, hh, fun i => ⟨fun h => h.elim .inl fun h => .inr (.inr h), fun h => h.elim .inl fun h => h.elim (fun h => by simp [Value.ownBlock] at h) .inr⟩, hB1, rfl⟩
theorem run_out_c {K : GrK} {G ln pc : Nat} {PA : Option Addr} {wC w : World} {t : List Int} {L R : Nat} {bs : List (Nat × Obj)} (hS : Start K G wC) (hin : K.inn = false) (hlen : K.offs.length = ln) (hl : 1 ≤ ln ∧ ln ≤ 30)
  (hpk : PkOn (TyOn wC) wC PA ln pc K.offs) (h : P1 wC t L R w bs) :
  Calls Tryz.prog 12 #[.agg (isoV false PA ln pc 0 ln none 0 0 none 0 0 0), .iface 32 (.pointer (some ⟨G, 0, none⟩)), .iface 35 (.pointer (some ⟨L, 0, none⟩)), .int .i64 (ln : Int)] w fun e w' =>
   ∃ V, e = .returned (.agg V) ∧ P2 wC G false ln K (FinOut K.offs ln t) V w' bs := by
 obtain ⟨h1, h2, h3, h4, h5, h6⟩ := h
 subst hlen
 have hsz := h1.size
 have hll := h2.lt
 have hGt : ∀ i, TyOn wC i → i ≠ G := fun i hi e => by
  subst e
  obtain ⟨cs, t', h7, h8⟩ := hi
  rw [hS.box] at h7
  injection h7 with h7
  injection h7 with _ h7
  subst h7
  rcases h8 with h8 | h8 <;> exact absurd h8 (by decide)
 have hWo : ∀ i, (lineWire wC.heap.size L R).own i → wC.heap.size ≤ i ∧ i < w.heap.size ∧ i ≠ G := by
  have := hS.lt
  rintro i (rfl | rfl) <;> omega
 have hI := start_I (B1 := w.heap.size) hS (lineWire wC.heap.size L R) t h1 (Nat.le_refl _) h2
 have H := out_runs K hS.iso G wC.heap.size w.heap.size hsz (Nat.lt_of_lt_of_le hS.lt hsz) (lineWire wC.heap.size L R) hWo hin hS.endp hS.off K.offs hS.off hl.2 K.offs.length w.heap.size (Nat.le_refl _) (t, s00) ⟨rfl, rfl, rfl, rfl⟩
 refine (run_ret (isoBus K hS.iso G wC.heap.size w.heap.size hsz (Nat.lt_of_lt_of_le hS.lt hsz) (lineWire wC.heap.size L R) hWo) K.offs.length (by omega) w _ _ _ _ H (fun i => i = G ∨ (lineWire wC.heap.size L R).own i) _ ?_ hI).mono ?_
 ·refine ⟨PA, pc, none, 0, by rw [sumTo_zero]; rfl, ?_, ⟨⟨rfl, Nat.le_refl _, .inl ⟨rfl, rfl, rfl⟩⟩, .inl rfl⟩, .inl rfl⟩
  have hlt : ∀ i, TyOn wC i → i < wC.heap.size := fun i ⟨cs, t', h7, _⟩ => (Array.getElem?_eq_some_iff.1 h7).1
  exact (hpk.on fun i hi => h1.block i (hlt i hi)).wide fun i hi => by
   have := hlt i hi
   refine ⟨by omega, by omega, fun hs => ?_⟩
   rcases hs with hs | hs
   ·exact hGt i hi hs
   ·have := hWo i hs; omega
 ·rintro e w' ⟨S, V, rfl, ⟨PA', pc', XA, xc, rfl, hp, hx, hpx⟩, hI', hm⟩
  obtain ⟨gX, rfl⟩ : ∃ g, XA = some ⟨g, 0, none⟩ := by
   rcases hpx with h | h
   ·omega
   ·exact h
  have hb8 := sumTo_le K.offs hS.off K.offs.length
  refine ⟨_, rfl, Mv.kp h1 hm (fun i hi => hi.elim .inl fun h => .inr (hWo i h).1), h5.keep (fun p hp => hm.block _ (h5.lt hp) (fun hs => ?_)), fun _ => 0, fun _ => [], (sumTo K.offs K.offs.length : Int), _, _, _, _, _, gX, xc, _, _, _, _, _, ⟨fun _ => rfl, rfl, ?_, ?_⟩, gfin hI', rfl, hx.1, noPieces_d _ _, by simp, ⟨by omega, by omega⟩, fun _ => by simp⟩
  ·have hq := (h5 p hp).2
   have hq6 := h6 p hp
   rcases hs with hs | hs | hs
   ·have := hS.lt; omega
   ·exact hq6.1 hs
   ·exact hq6.2 hs
  ·have := (outK_facts (lineWire wC.heap.size L R) K.offs (t, s00) K.offs.length).2.2.2
   simpa [s00] using this
  ·rintro rfl
   have hn : ∀ k, (outK (lineWire wC.heap.size L R) K.offs (([] : List Int), s00) k).1 = ([] : List Int) := by
    intro k
    induction k with
    | zero => rfl
    | succ k ih =>
     show ((lineWire wC.heap.size L R).nx ((lineWire wC.heap.size L R).nx (outK (lineWire wC.heap.size L R) K.offs (([] : List Int), s00) k).1).2).2 = _
     rw [ih]
     rfl
   have hq : ∀ k, (outK (lineWire wC.heap.size L R) K.offs (([] : List Int), s00) k).2.taken.length = sumTo K.offs k := by
    intro k
    induction k with
    | zero => simp [outK, s00, sumTo_zero]
    | succ k ih =>
     rw [sumTo_succ]
     show (outS wC.heap.size (lineWire wC.heap.size L R) (outK (lineWire wC.heap.size L R) K.offs (([] : List Int), s00) k) (K.offs[k]?.getD [])).2.taken.length = _
     rw [out_all (lineWire wC.heap.size L R) _ _ (by rw [hn k]; rfl) (by rw [hn k]; rfl), List.length_append, ih]
   exact hq _
theorem in_one {B0 : Nat} (W : Wire B0) (K : GrK) (s : W.τ × GrS) (h1 : (W.nx s.1).1 = 0) (h2 : (W.nx (W.nx s.1).2).1 = 0) : (inS B0 W K s).2.2.nx = s.2.nx + 1 ∧ (s.2.nx < K.on → (inS B0 W K s).1.1 = 1) ∧ ((inS B0 W K s).2.1 = (W.nx s.1).2 ∨ (inS B0 W K s).2.1 = (W.nx (W.nx s.1).2).2) := by
 unfold inS
 rw [if_pos h1]
 split
 ·exact ⟨rfl, fun h => by omega, .inl rfl⟩
 ·exact ⟨rfl, fun _ => rfl, .inr rfl⟩
theorem errV_zero {r : Int} : errV r = 0 ↔ r = 1 := by unfold errV; split <;> simp_all
theorem run_in_c {K : GrK} {G ln : Nat} {wC w : World} {t : List Int} {L R : Nat} {bs : List (Nat × Obj)} (hS : Start K G wC) (hin : K.inn = true) (hon : K.on = ln) (hl : 1 ≤ ln ∧ ln ≤ 30) (h : P1 wC t L R w bs) :
  Calls Tryz.prog 12 #[.agg (isoV true none 0 0 (ln : Int) ln none 0 0 none 0 0 0), .iface 32 (.pointer (some ⟨G, 0, none⟩)), .iface 35 (.pointer (some ⟨L, 0, none⟩)), .int .i64 (ln : Int)] w fun e w' =>
   ∃ V, e = .returned (.agg V) ∧ P2 wC G true ln K (FinIn K.offs ln t) V w' bs := by
 obtain ⟨h1, h2, h3, h4, h5, h6⟩ := h
 have hsz := h1.size
 have hll := h2.lt
 have hWo : ∀ i, (lineWire wC.heap.size L R).own i → wC.heap.size ≤ i ∧ i < w.heap.size ∧ i ≠ G := by
  have := hS.lt
  rintro i (rfl | rfl) <;> omega
 have hI := start_I (B1 := w.heap.size) hS (lineWire wC.heap.size L R) t h1 (Nat.le_refl _) h2
 have H := in_runs K hS.iso G wC.heap.size w.heap.size hsz (Nat.lt_of_lt_of_le hS.lt hsz) (lineWire wC.heap.size L R) hWo hin hS.endp hS.off ln hl.2 ln w.heap.size (Nat.le_refl _) (t, s00) ⟨rfl, rfl, rfl, rfl⟩
 refine (run_ret (isoBus K hS.iso G wC.heap.size w.heap.size hsz (Nat.lt_of_lt_of_le hS.lt hsz) (lineWire wC.heap.size L R) hWo) ln (by omega) w _ _ _ _ H (fun i => i = G ∨ (lineWire wC.heap.size L R).own i) _ ?_ hI).mono ?_
 ·exact ⟨none, 0, none, 0, 0, [], rfl, ⟨⟨rfl, Nat.le_refl _, .inl ⟨rfl, rfl, rfl⟩⟩, .inl rfl⟩, fun i hi => by omega, (D8.nil w no).1, .inl rfl, .inl rfl⟩
 ·rintro e w' ⟨S, V, rfl, ⟨XA, xc, IA, im, ic, us, rfl, hx, hd, hu, hf, hpx⟩, hI', hm⟩
  obtain ⟨gX, rfl⟩ : ∃ g, XA = some ⟨g, 0, none⟩ := by
   rcases hpx with h | h
   ·omega
   ·exact h
  have hcl := inCat_len K wC.heap.size (lineWire wC.heap.size L R) hS.off (t, s00) ln
  have hul := hu.1
  have hrl := inR_len wC.heap.size (lineWire wC.heap.size L R) hS.off (K := K) (t, s00)
  refine ⟨_, rfl, Mv.kp h1 hm (fun i hi => hi.elim .inl fun h => .inr (hWo i h).1), h5.keep (fun p hp => hm.block _ (h5.lt hp) (fun hs => ?_)), fun k => errV (inR (lineWire wC.heap.size L R) K (t, s00) k).1, fun k => (inR (lineWire wC.heap.size L R) K (t, s00) k).2, (im : Int), _, _, _, _, _, gX, xc, _, _, _, _, us, ⟨fun k => (inK (lineWire wC.heap.size L R) K (t, s00) k).2.nx, rfl, fun k hk => ⟨(inR_facts (lineWire wC.heap.size L R) K (t, s00) k).1, fun he => ?_, fun he => ?_⟩, ?_, ?_⟩, gfin hI', rfl, hx.1, ⟨by have := hx.1.1; omega, fun i hi => ⟨(hd i hi).1, ?_⟩⟩, by simp, ⟨by omega, by omega⟩, fun k => Nat.le_trans (hrl k) (by omega)⟩
  ·have hq := (h5 p hp).2
   have hq6 := h6 p hp
   rcases hs with hs | hs
   ·have := hS.lt; omega
   ·rcases hs with hs | hs
    ·exact hq6.1 hs
    ·exact hq6.2 hs
  ·rcases (inR_facts (lineWire wC.heap.size L R) K (t, s00) k).2 with ⟨_, h⟩ | ⟨h, _⟩
   ·exact h
   ·exact absurd (errV_zero.2 h) he
  ·rcases (inR_facts (lineWire wC.heap.size L R) K (t, s00) k).2 with ⟨h, _⟩ | ⟨h, h7, h8, h9⟩
   ·rw [errV_zero.1 he] at h; cases h
   ·exact ⟨by rw [← hon]; exact h7, h8, h9⟩
  ·intro ht k hk
   subst ht
   have hn : ∀ k, (inK (lineWire wC.heap.size L R) K (([] : List Int), s00) k).1 = ([] : List Int) ∧ (inK (lineWire wC.heap.size L R) K (([] : List Int), s00) k).2.nx = k := by
    intro k
    induction k with
    | zero => exact ⟨rfl, rfl⟩
    | succ k ih =>
     obtain ⟨i1, _, i3⟩ := in_one (lineWire wC.heap.size L R) K (inK (lineWire wC.heap.size L R) K (([] : List Int), s00) k) (by rw [ih.1]; rfl) (by rw [ih.1]; rfl)
     refine ⟨?_, i1.trans (by rw [ih.2])⟩
     rcases i3 with i3 | i3
     ·exact i3.trans (by rw [ih.1]; rfl)
     ·exact i3.trans (by rw [ih.1]; rfl)
   obtain ⟨_, i2, _⟩ := in_one (lineWire wC.heap.size L R) K (inK (lineWire wC.heap.size L R) K (([] : List Int), s00) k) (by rw [(hn k).1]; rfl) (by rw [(hn k).1]; rfl)
   exact errV_zero.2 (i2 (by rw [(hn k).2]; omega))
  ·rw [← hul]
   have : ∀ j, j ≤ ln → (inCat (lineWire wC.heap.size L R) K (t, s00) j).length = sumTo ((List.range ln).map fun k => (inR (lineWire wC.heap.size L R) K (t, s00) k).2) j := by
    intro j
    induction j with
    | zero => intro _; simp [inCat, sumTo_zero]
    | succ j ih =>
     intro hj
     rw [sumTo_succ, ← ih (by omega)]
     show (inCat (lineWire wC.heap.size L R) K (t, s00) j ++ (inR (lineWire wC.heap.size L R) K (t, s00) j).2).length = _
     rw [List.length_append, List.getElem?_map, List.getElem?_range (by omega)]
     rfl
   rw [this ln (Nat.le_refl _)]
  ·obtain ⟨D, hD1, hD2⟩ := (hd i hi).2
   refine ⟨D, hD1, ?_⟩
   rcases hD2 with ⟨hr, g, c, e, hF, _, _⟩ | ⟨hr, e⟩
   ·exact .inr ⟨g, c, e, hF⟩
   ·refine .inl ⟨e, ?_⟩
    rcases (inR_facts (lineWire wC.heap.size L R) K (t, s00) i).2 with ⟨_, h⟩ | ⟨h, _⟩
    ·exact h
    ·exact absurd h hr
def NotOver (ln : Nat) (V : Array Value) : Prop := ∃ inn PA pn pc m0 XA xn xc IA im ic out, V = isoV inn PA pn pc m0 ln XA xn xc IA im ic out ∧ xn < ln ∧ 0 ≤ (im : Int) + out ∧ (im : Int) + out ≤ 1000000
theorem start2 {inn : Bool} {G : Nat} {w : World} (h : w.heap[G]? = some (.cells (grCells (kOf inn none 0 0 [] []) (.slice none 0 0) s00) 34 (0, 0))) : Start (kOf inn none 0 0 [] []) G w :=
 ⟨(Array.getElem?_eq_some_iff.1 h).1, h, ⟨(D8.nil w no).1, ⟨rfl, Nat.le_refl _, .inl ⟨rfl, rfl, rfl⟩⟩, ⟨rfl, fun j v b hj => by simp [kOf] at hj⟩, .inl rfl, .inl rfl, fun j A n c hj => by simp [kOf] at hj⟩, rfl, rfl, fun b hb => by simp [kOf] at hb⟩
theorem run2_out_c {G ln pc : Nat} {PA : Option Addr} {w : World} {offs : List (List Int)} {X : Nat → Prop} (h : w.heap[G]? = some (.cells (grCells (kOf false none 0 0 [] []) (.slice none 0 0) s00) 34 (0, 0)))
  (hlen : offs.length = ln) (hl : 1 ≤ ln ∧ ln ≤ 30) (hoff : ∀ b ∈ offs, b.length ≤ 8) (hpk : PkOn X w PA ln pc offs) (hX : ∀ i, X i → i < w.heap.size ∧ i ≠ G) :
  Calls Tryz.prog 12 #[.agg (isoV false PA ln pc 0 ln none 0 0 none 0 0 0), .iface 32 (.pointer (some ⟨G, 0, none⟩)), .nilIface, .int .i64 ((ln - 1 : Nat) : Int)] w fun e w' => ∃ V, e = .returned (.agg V) ∧ NotOver ln V ∧ Kp G w w' := by
 subst hlen
 have hS := start2 h
 have hWo : ∀ i, (nilWire w.heap.size).own i → w.heap.size ≤ i ∧ i < w.heap.size ∧ i ≠ G := fun i h => h.elim
 have hI := start_I (B1 := w.heap.size) hS (nilWire w.heap.size) () (Below.refl _ _) (Nat.le_refl _) trivial
 have H := out_runs (kOf false none 0 0 [] []) rfl G w.heap.size w.heap.size (Nat.le_refl _) hS.lt (nilWire w.heap.size) hWo rfl rfl (fun b hb => by simp [kOf] at hb) offs hoff hl.2 (offs.length - 1) w.heap.size (by omega) ((), s00) ⟨rfl, rfl, rfl, rfl⟩
 refine (run_ret (isoBus (kOf false none 0 0 [] []) rfl G w.heap.size w.heap.size (Nat.le_refl _) hS.lt (nilWire w.heap.size) hWo) (offs.length - 1) (by omega) w _ _ _ _ H (fun i => i = G ∨ (nilWire w.heap.size).own i) _ ?_ hI).mono ?_
 ·refine ⟨PA, pc, none, 0, by rw [sumTo_zero]; rfl, ?_, ⟨⟨rfl, Nat.le_refl _, .inl ⟨rfl, rfl, rfl⟩⟩, .inl rfl⟩, .inl rfl⟩
  exact hpk.wide fun i hi => ⟨(hX i hi).1, (hX i hi).1, fun hs => hs.elim (hX i hi).2 (fun h => h.elim)⟩
 ·rintro e w' ⟨S, V, rfl, ⟨PA', pc', XA, xc, rfl, hp, hx, hpx⟩, hI', hm⟩
  have hb8 := sumTo_le offs hoff (offs.length - 1)
  exact ⟨_, rfl, ⟨_, _, _, _, _, _, _, _, _, _, _, _, rfl, by omega, by omega, by omega⟩, Mv.kp (Below.refl _ _) hm (fun i hi => hi.elim .inl fun h => h.elim)⟩
theorem run2_in_c {G ln : Nat} {w : World} (h : w.heap[G]? = some (.cells (grCells (kOf true none 0 0 [] []) (.slice none 0 0) s00) 34 (0, 0))) (hl : 1 ≤ ln ∧ ln ≤ 30) :
  Calls Tryz.prog 12 #[.agg (isoV true none 0 0 (ln : Int) ln none 0 0 none 0 0 0), .iface 32 (.pointer (some ⟨G, 0, none⟩)), .nilIface, .int .i64 ((ln - 1 : Nat) : Int)] w fun e w' => ∃ V, e = .returned (.agg V) ∧ NotOver ln V ∧ Kp G w w' := by
 have hS := start2 h
 have hWo : ∀ i, (nilWire w.heap.size).own i → w.heap.size ≤ i ∧ i < w.heap.size ∧ i ≠ G := fun i h => h.elim
 have hI := start_I (B1 := w.heap.size) hS (nilWire w.heap.size) () (Below.refl _ _) (Nat.le_refl _) trivial
 have H := in_runs (kOf true none 0 0 [] []) rfl G w.heap.size w.heap.size (Nat.le_refl _) hS.lt (nilWire w.heap.size) hWo rfl rfl (fun b hb => by simp [kOf] at hb) ln hl.2 (ln - 1) w.heap.size (by omega) ((), s00) ⟨rfl, rfl, rfl, rfl⟩
 refine (run_ret (isoBus (kOf true none 0 0 [] []) rfl G w.heap.size w.heap.size (Nat.le_refl _) hS.lt (nilWire w.heap.size) hWo) (ln - 1) (by omega) w _ _ _ _ H (fun i => i = G ∨ (nilWire w.heap.size).own i) _ ?_ hI).mono ?_
 ·exact ⟨none, 0, none, 0, 0, [], rfl, ⟨⟨rfl, Nat.le_refl _, .inl ⟨rfl, rfl, rfl⟩⟩, .inl rfl⟩, fun i hi => by omega, (D8.nil w no).1, .inl rfl, .inl rfl⟩
 ·rintro e w' ⟨S, V, rfl, ⟨XA, xc, IA, im, ic, us, rfl, hx, hd, hu, hf, hpx⟩, hI', hm⟩
  have hcl := inCat_len (kOf true none 0 0 [] []) w.heap.size (nilWire w.heap.size) (fun b hb => by simp [kOf] at hb) ((), s00) (ln - 1)
  have hul := hu.1
  exact ⟨_, rfl, ⟨_, _, _, _, _, _, _, _, _, _, _, _, rfl, by omega, by omega, by omega⟩, Mv.kp (Below.refl _ _) hm (fun i hi => hi.elim .inl fun h => h.elim)⟩
def z4 : Array Value := #[.int .i64 0, .slice none 0 0, .int .i64 0, .slice none 0 0]
def z11 : Array Value := #[.int .u8 0, .int .u8 0, .bool false, .int .u8 0, .int .i64 0, .int .i64 0, .int .u8 0, .int .u8 0, .int .u8 0, .bool false, .bool false]
theorem end2_c {ln : Nat} {V : Array Value} (h : NotOver ln V) (w : World) : Calls Tryz.prog 17 #[.agg V] w fun e w' => Below w.heap.size w w' ∧ e = .returned (.tuple #[.agg z4, .agg z11, .bool false]) := by
 obtain ⟨inn, PA, pn, pc, m0, XA, xn, xc, IA, im, ic, out, rfl, h1, h2, h3⟩ := h
 exact pipe_end_no inn m0 out ln xn xc pn pc im ic PA IA XA w (by omega) h1 ⟨h2, h3⟩
end Go.Proofs.YtiajboiobjfcoaaGreatDoor
