/-
  What is proved here: what the law's run returns for isochronous works that receive.
  Conditions: what the work's and the device's cells hold.
-/
import Derived.Test.YtiajboiobjfcoaaGreatDoorIIso
namespace Go.Proofs.YtiajboiobjfcoaaGreatDoor
open Go.Proofs Go.RowKit
def PdAt (w : World) (S : Nat → Prop) (b0 : Nat) (v : Value) (r : Int × List Int) : Prop :=
 (r.1 = 1 ∧ ∃ g c, v = .slice (some ⟨g, 0, none⟩) r.2.length c ∧ F8 w g r.2.length c r.2 ∧ ¬ S g ∧ (g < b0 ∨ b0 + 1 < g)) ∨ (r.1 ≠ 1 ∧ v = .slice none 0 0)
theorem F8.lt {w : World} {g n c : Nat} {xs : List Int} (h : F8 w g n c xs) : g < w.heap.size := by
 obtain ⟨_, _, _, cs, h4, _⟩ := h
 exact (Array.getElem?_eq_some_iff.1 h4).1
theorem PdAt.mv {w w' : World} {S S' : Nat → Prop} {b0 : Nat} {v : Value} {r : Int × List Int} (h : PdAt w S b0 v r) (hm : Mv S w S' w') : PdAt w' S' b0 v r :=
 h.imp (fun ⟨e, g, c, e', hf, hs, hb⟩ => ⟨e, g, c, e', hf.heap (fun _ ho => (hm.block g hf.lt hs).trans ho), hm.out hf.lt hs, hb⟩) id
theorem PdAt.wr {w w' : World} {S : Nat → Prop} {b0 i : Nat} {v : Value} {r : Int × List Int} (h : PdAt w S b0 v r) (hW : Wrote i w w') (h0 : b0 ≤ i) (h1 : i ≤ b0 + 1) : PdAt w' S b0 v r :=
 h.imp (fun ⟨e, g, c, e', hf, hs, hb⟩ => ⟨e, g, c, e', hf.heap (fun _ ho => (hW.other g (by omega)).trans ho), hs, hb⟩) id
def inCat {B0 : Nat} (W : Wire B0) (K : GrK) (s : W.τ × GrS) : Nat → List Int
 | 0 => []
 | k + 1 => inCat W K s k ++ (inR W K s k).2
def InWk {B0 : Nat} (W : Wire B0) (K : GrK) (s : W.τ × GrS) (many b0 : Nat) (k : Nat) (w : World) (S : Nat → Prop) (V : Array Value) : Prop :=
 ∃ XA xc IA im ic us, V = isoV true none 0 0 (many : Int) many XA k xc IA im ic 0 ∧ PcF w S b0 XA k xc us ∧ (∀ i, i < k → us[2 * i]? = some (.int .i64 (errV (inR W K s i).1)) ∧ ∃ D, us[2 * i + 1]? = some D ∧ PdAt w S b0 D (inR W K s i)) ∧
  U8 w IA im ic (inCat W K s k) ∧ Far S b0 IA im ∧ PlX XA k
theorem u8_lt {w : World} {A : Option Addr} {n c : Nat} {xs : List Int} (h : U8 w A n c xs) : n = 0 ∨ ∀ a, A = some a → a.block < w.heap.size := by
 rcases Nat.eq_zero_or_pos n with h0 | h0
 ·exact .inl h0
 obtain ⟨_, _, _, ⟨_, h, _⟩ | ⟨a, rfl, h5⟩⟩ := h
 ·omega
 refine .inr fun a' e => ?_
 cases e
 have := World.block_lt_of_cell? _ _ (h5 0 h0)
 rwa [show (a.add 0) = a by simp [Addr.add]] at this
theorem u8_to {w w' : World} {A : Option Addr} {n c : Nat} {xs : List Int} (h : U8 w A n c xs) (hk : n = 0 ∨ ∀ a, A = some a → w'.heap[a.block]? = w.heap[a.block]?) : U8 w' A n c xs := by
 obtain ⟨h1, h2, h3, h4⟩ := h
 refine ⟨h1, h2, h3, h4.imp id ?_⟩
 rintro ⟨a, rfl, hc⟩
 refine ⟨a, rfl, fun j hj => ?_⟩
 rcases hk with h0 | hk
 ·omega
 ·exact (World.cell?_of_block (w := w) (w' := w') (a := a.add j) (by rw [add_block']; exact hk a rfl)).trans (hc j hj)
theorem InWk.mv {B0 : Nat} {W : Wire B0} {K : GrK} {s : W.τ × GrS} {many b0 k : Nat} {w w' : World} {S S' : Nat → Prop} {V : Array Value} (h : InWk W K s many b0 k w S V) (hm : Mv S w S' w') : InWk W K s many b0 k w' S' V := by
 obtain ⟨XA, xc, IA, im, ic, us, e, hx, hd, hu, hf, hpx⟩ := h
 refine ⟨XA, xc, IA, im, ic, us, e, hx.mv hm, fun i hi => ⟨(hd i hi).1, (hd i hi).2.elim fun D h => ⟨D, h.1, h.2.mv hm⟩⟩, u8_to hu ?_, hf.mv hm (u8_lt hu), hpx⟩
 rcases hf with h0 | ⟨a, rfl, h1, _⟩
 ·exact .inl h0
 ·exact (u8_lt hu).imp id fun hl a' e => by cases e; exact hm.block _ (hl a rfl) h1
theorem InWk.bx {B0 : Nat} {W : Wire B0} {K : GrK} {s : W.τ × GrS} {many b0 k g : Nat} {w w' : World} {S : Nat → Prop} {V : Array Value} (h : InWk W K s many b0 k w S V) (hW : Wrote g w w') (h0 : b0 ≤ g) (h1 : g ≤ b0 + 1) : InWk W K s many b0 k w' S V := by
 obtain ⟨XA, xc, IA, im, ic, us, e, hx, hd, hu, hf, hpx⟩ := h
 refine ⟨XA, xc, IA, im, ic, us, e, hx.wr hW h0 h1, fun i hi => ⟨(hd i hi).1, (hd i hi).2.elim fun D h => ⟨D, h.1, h.2.wr hW h0 h1⟩⟩, u8_to hu ?_, hf, hpx⟩
 exact hf.imp id fun ⟨a, e, _, h2⟩ a' e' => by rw [e] at e'; cases e'; exact hW.other _ (by omega)
section
variable (K : GrK) (hiso : K.iso = true) (G B0 B1 : Nat) (hG : B0 ≤ B1) (hGB : G < B1) (W : Wire B0) (hWo : ∀ i, W.own i → B0 ≤ i ∧ i < B1 ∧ i ≠ G)
theorem in_small (s0 : W.τ × GrS) (hs0 : s0.2.at_ = 0 ∧ s0.2.nx = 0 ∧ s0.2.many = 0 ∧ s0.2.taken = []) (k : Nat) (hk : k ≤ 30) :
  (inK W K s0 k).2.at_ ≤ 1000 ∧ (inK W K s0 k).2.nx ≤ 1000 ∧ (inK W K s0 k).2.many ≤ 1000 ∧ (inK W K s0 k).2.taken.length ≤ 1000 := by
 obtain ⟨h1, h2, h3, h4⟩ := inK_facts W K s0 k
 obtain ⟨a1, a2, a3, a4⟩ := hs0
 rw [a4] at h4
 rw [h4]
 simp
 omega
theorem inR_len (hoff : ∀ b ∈ K.offs, b.length ≤ 8) (s0 : W.τ × GrS) (k : Nat) : (inR W K s0 k).2.length ≤ 8 := by
 rcases (inR_facts W K s0 k).2 with ⟨_, h⟩ | ⟨_, _, _, h⟩
 ·rw [h]; simp
 ·rw [h]
  cases h : K.offs[(inK W K s0 k).2.nx]? with
  | none => simp
  | some b => have := hoff b (List.mem_of_getElem? h); simpa using this
theorem inCat_len (hoff : ∀ b ∈ K.offs, b.length ≤ 8) (s0 : W.τ × GrS) (k : Nat) : (inCat W K s0 k).length ≤ 8 * k := by
 induction k with
 | zero => simp [inCat]
 | succ k ih =>
  have := inR_len B0 W hoff (K := K) s0 k
  show (inCat W K s0 k ++ (inR W K s0 k).2).length ≤ _
  rw [List.length_append]
  omega
set_option maxHeartbeats 1000000 in
theorem in_runs (hin : K.inn = true) (he : K.endp = 2) (hoff : ∀ b ∈ K.offs, b.length ≤ 8) (many : Nat) (hmany : many ≤ 30) (n b0 : Nat) (hn : n ≤ many) (s0 : W.τ × GrS)
  (hs0 : s0.2.at_ = 0 ∧ s0.2.nx = 0 ∧ s0.2.many = 0 ∧ s0.2.taken = []) :
  Runs (isoBus K hiso G B0 B1 hG hGB W hWo) n b0 (inK W K s0) (fun k => (inR W K s0 k).1) (fun k => (inR W K s0 k).2) (InWk W K s0 many b0) where
 sz := by
  rintro k wr S V ⟨XA, xc, IA, im, ic, us, rfl, _⟩
  exact ⟨rfl, rfl⟩
 mv := fun h hm => h.mv hm
 bx := fun h hW h0 h1 => h.bx hW h0 h1
 next := by
  rintro k wr S V hk ⟨XA, xc, IA, im, ic, us, rfl, hx, hd, hu, hf, _⟩ hI
  unfold isoV
  refine (pipe_next 5 2 true 8 8 1 0 1 false false _ _ _ _ _ _ _ _ _ _ _ _ _ _ _ _ _ _ _ _ _ _ _ _ _ _ _ _ _ _ _ _ _ _ _ 2 9 false true 8 [] wr (fun w' hbw => ?_)).mono ?_
  ·refine (pn_in 2 8 many many k xc 0 0 none XA w' (by omega)).mono ?_
   rintro e w2 ⟨rfl, hbel⟩
   exact ⟨hbel, _, _, _, rfl, ⟨(D8.nil w2 no).1, .inl rfl⟩, .inl rfl⟩
  ·rintro e w1 ⟨hb1, A, m, c, rfl, hN, hPl⟩
   have hm0 : m = 0 := by have := hN.1.1; simpa using this.symm
   refine ⟨hb1, _, rfl, rfl, rfl, fun w2 hb2 => ?_⟩
   have hI2 := Bus.below hI (hb1.trans (hb2.mono hb1.size))
   have hsm := in_small K B0 W s0 hs0 k (by omega)
   have hrm : GrS.room (inK W K s0 k).2 := ⟨by omega, by omega, by omega, by omega⟩
   have ho := iso_in K hiso G B0 B1 hG hGB W hWo hin he hoff (inK W K s0 k)
   refine do_ret (isoBus K hiso G B0 B1 hG hGB W hWo) 9 5 2 false true 8 A m c w2 S (inK W K s0 k) (((inR W K s0 k).1, (inR W K s0 k).2), inK W K s0 (k + 1)) hI2 ?_ (.inl rfl) (fun _ w3 S3 dB wB sB Bx B us hdo hI3 => ?_) (fun h => absurd h (by decide))
   ·exact tck_tok t_in1 (by omega) 5 2 false true 8 A m c (by omega) (by omega) (slz_of hPl (by omega)) (by show (0 : Int) ≤ m ∧ (m : Int) ≤ 0; omega) (by decide) (by decide) (by decide) (by decide) (fun _ h => h)
   ·have hout := in_ret (isoBus K hiso G B0 B1 hG hGB W hWo) (dev := true) (k := 0) (by omega) hdo (s := inK W K s0 k) 5 2 false true 8 A m c hI3 (by omega) (ck_token (.inr rfl)) (fun _ => ⟨⟨.inl rfl, by simp⟩, hrm⟩) (ck_shake (.inl rfl)) (fun h => absurd h (by decide)) (iso_ans K hiso G B0 B1 hG hGB W hWo hoff)
    rw [ho] at hout
    exact hout
 ans := by
  rintro k wr S V A m c hk ⟨XA, xc, IA, im, ic, us, rfl, hx, hd, hu, hf, _⟩ hI hdd hb0
  have hrl := inR_len B0 W hoff (K := K) s0 k
  have hcl := inCat_len K B0 W hoff s0 k
  have hlt : ∀ i, S i → i < wr.heap.size := fun i hi => (isoBus K hiso G B0 B1 hG hGB W hWo).lt hI i hi
  have hul := hu.1
  have hml := hdd.1.1
  unfold isoV
  have hstep : ∀ w' : World, Below wr.heap.size wr w' → ∀ (XA' : Option Addr) (xc' : Nat) (IA' : Option Addr) (im' ic' : Nat) (D : Value), Pcs w' XA' (k + 1) xc' (us ++ [.int .i64 (errV (inR W K s0 k).1), D]) → (∃ g, XA' = some ⟨g, 0, none⟩ ∧ wr.heap.size ≤ g) → PdAt w' S b0 D (inR W K s0 k) → U8 w' IA' im' ic' (inCat W K s0 (k + 1)) → Far S b0 IA' im' →
    InWk W K s0 many b0 (k + 1) w' S (isoV true none 0 0 (many : Int) many XA' (k + 1) xc' IA' im' ic' 0) := by
   rintro w' hbel _ xc' IA' im' ic' D hP ⟨g, rfl, hg⟩ hD hu' hf'
   have hmv : Mv S wr S w' := (Mv.refl S wr).below hbel
   have hl2 : us.length = 2 * k := by have := hx.1.1; omega
   refine ⟨_, xc', IA', im', ic', _, rfl, ⟨hP, .inr ⟨_, rfl, fun h => by have := hlt _ h; simp at this; omega, by simp; omega⟩⟩, fun i hi => ?_, hu', hf', .inr ⟨_, rfl⟩⟩
   by_cases h : i < k
   ·obtain ⟨h1, D', h2, h3⟩ := hd i h
    refine ⟨by rw [List.getElem?_append_left (by omega)]; exact h1, D', by rw [List.getElem?_append_left (by omega)]; exact h2, h3.mv hmv⟩
   ·obtain rfl : i = k := by omega
    refine ⟨?_, D, ?_, hD⟩
    ·rw [List.getElem?_append_right (by omega), hl2]; simp
    ·rw [List.getElem?_append_right (by omega), hl2]; simp
  rcases (inR_facts W K s0 k).2 with ⟨hr, hr2⟩ | ⟨hr, _⟩
  ·dsimp only at hdd ⊢
   rw [hr]
   refine (ans_in4 5 2 8 8 1 0 1 many false false many k xc 0 0 im ic none XA IA 0 us A m c (inR W K s0 k).2 wr (by omega) (by omega) hx.1 hdd.1 (by omega) (by omega)).mono ?_
   rintro e w' ⟨hbel, XA', xc', rfl, hP, hg⟩
   refine ⟨hbel, _, rfl, hstep w' hbel XA' xc' IA im ic (.slice none 0 0) ?_ hg (.inr ⟨by rw [hr]; decide, rfl⟩) ?_ hf⟩
   ·rw [hr]; exact hP
   ·show U8 w' IA im ic (inCat W K s0 k ++ (inR W K s0 k).2)
    rw [hr2, List.append_nil]
    exact hu.below hbel
  ·dsimp only at hdd ⊢
   rw [hr]
   refine (ans_in1 5 2 8 8 1 0 1 many false false many k xc 0 0 im ic none XA IA 0 (inCat W K s0 k) us A m c (inR W K s0 k).2 wr (by omega) (by omega) hx.1 hdd.1 hu (by omega) (by omega) (by omega)).mono ?_
   rintro e w' ⟨hbel, XA', xc', g, c', IA', ic', rfl, hP, hF, hgD, hown, hg⟩
   have hrng : ∀ x ∈ inCat W K s0 k ++ (inR W K s0 k).2, 0 ≤ x ∧ x ≤ 255 := fun x h => (List.mem_append.1 h).elim (hu.2.1 x) (hdd.1.2.1 x)
   obtain ⟨A2, c2, e2, hu2, hf2⟩ := u8_row hrng hown
   injection e2 with e2 _ e3
   subst e2 e3
   refine ⟨hbel, _, rfl, hstep w' hbel XA' xc' IA' (im + m) ic' (.slice (some ⟨g, 0, none⟩) (inR W K s0 k).2.length c') ?_ hg (.inl ⟨hr, g, c', rfl, hF, fun h => by have := hlt _ h; omega, by omega⟩) hu2 ?_⟩
   ·rw [hr]; exact hP
   ·exact hf2.imp id fun ⟨a, e, h1, h2⟩ => ⟨a, e, fun h => by have := hlt _ h; omega, by omega⟩
end
end Go.Proofs.YtiajboiobjfcoaaGreatDoor
