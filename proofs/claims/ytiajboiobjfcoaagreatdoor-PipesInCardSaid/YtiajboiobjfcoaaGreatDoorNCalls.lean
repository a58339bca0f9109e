/-
  What is proved here: the calls of the law's region 23, IN, in any world that has what they need.
  Conditions: what the device's, the packets' and the faults' cells hold at the beginning.
-/
import Derived.Test.YtiajboiobjfcoaaGreatDoorNFin
import Derived.Test.YtiajboiobjfcoaaGreatDoorNR23
import Derived.Test.YtiajboiobjfcoaaGreatDoorNStop
import Derived.Test.YtiajboiobjfcoaaGreatDoorNHalt
import Derived.Test.YtiajboiobjfcoaaGreatDoorNStr
namespace Go.Proofs.YtiajboiobjfcoaaGreatDoor
open Go.Proofs Go.RowKit Go.Sy
theorem laid_belowN {W w : World} {g : List (Nat × List V)} (hw : LaidW W g) (hb : Below W.heap.size W w) : LaidW w g := by
 obtain ⟨bs, h⟩ := hw
 refine ⟨bs, fun ρ x hx => ⟨(h ρ x hx).1, ?_⟩⟩
 have h2 := (h ρ x hx).2
 have hl : (lyB x).live (cx0 bs ρ) := by rcases lyB_cases x with ⟨_, e⟩ | ⟨_, e⟩ <;> rw [e] <;> trivial
 exact h2.world (hb.block _ (h2.lt hl))
def h0N (tg : Bool) (n : Nat) : HIn := ⟨tg, [], 0, decide (n = 0), 0⟩
section
variable (K : GrK) (hiso : K.iso = false) (hin : K.inn = true) (G B0 B1 L R : Nat) (h1 : B0 ≤ B1) (h2 : G < B1) (h3 : ∀ i, (i = L ∨ i = R) → B0 ≤ i ∧ i < B1 ∧ i ≠ G)
def mN : Bus := inBus K hiso hin G B0 B1 h1 h2 (lineWire B0 L R) h3
variable (wC : World) (S : Nat → Prop) (tg : Bool) (job : Nat) (st0 : List Int × GrS) (n : Nat)
noncomputable def stN (m : Nat) : (List Int × GrS) × HIn := sinK (lineWire B0 L R) K job st0 (h0N tg job) m
def RunN (S' : Nat → Prop) (m : Nat) (w : World) (bs : List (Nat × Obj)) : Prop :=
 m ≤ n ∧ (∀ k, k < m → (stN K B0 L R tg job st0 k).2.over = false) ∧ Mv S wC S' w ∧ (∀ p ∈ bs, ¬ S' p.1) ∧ (mN K hiso hin G B0 B1 L R h1 h2 h3).I w S' (stN K B0 L R tg job st0 m).1
def R1N (V : Array Value) (w : World) (bs : List (Nat × Obj)) : Prop :=
 Has wC w bs ∧ ∃ S' m b0, RunN K hiso hin G B0 B1 L R h1 h2 h3 wC S tg job st0 n S' m w bs ∧ NWk tg job b0 (stN K B0 L R tg job st0 m).2 w S' V
def R2N (Vr Vq : Array Value) (w : World) (bs : List (Nat × Obj)) : Prop :=
 Has wC w bs ∧ ∃ S' m A c, RunN K hiso hin G B0 B1 L R h1 h2 h3 wC S tg job st0 n S' m w bs ∧ U8 w A (stN K B0 L R tg job st0 m).2.got.length c (stN K B0 L R tg job st0 m).2.got ∧
  ((stN K B0 L R tg job st0 m).2.got.length = 0 ∨ ∃ a, A = some a ∧ ∀ p ∈ bs, p.1 ≠ a.block) ∧
  Vr = #[.int .i64 (stNE (stN K B0 L R tg job st0 m).2), .slice A (stN K B0 L R tg job st0 m).2.got.length c, .int .i64 ((stN K B0 L R tg job st0 m).2.got.length : Int), .slice none 0 0] ∧
  Vq = spC 2 0 true (stN K B0 L R tg job st0 m).2.tg (stNHa (stN K B0 L R tg job st0 m).2)
theorem runN_alloc {S' : Nat → Prop} {m : Nat} {w : World} {bs : List (Nat × Obj)} (h : RunN K hiso hin G B0 B1 L R h1 h2 h3 wC S tg job st0 n S' m w bs) (o : Obj) : RunN K hiso hin G B0 B1 L R h1 h2 h3 wC S tg job st0 n S' m (w.alloc o) ((w.heap.size, o) :: bs) := by
 obtain ⟨a, b, c, d, e⟩ := h
 refine ⟨a, b, c.alloc o, fun p hp => ?_, Bus.below e ((Below.refl _ w).alloc (Nat.le_refl _) o)⟩
 rcases List.mem_cons.1 hp with rfl | hp
 ·exact Bus.new e (Nat.le_refl _)
 ·exact d p hp
theorem runN_sub {S' : Nat → Prop} {m : Nat} {w : World} {bs bs' : List (Nat × Obj)} (h : RunN K hiso hin G B0 B1 L R h1 h2 h3 wC S tg job st0 n S' m w bs) (hs : ∀ p ∈ bs', p ∈ bs) : RunN K hiso hin G B0 B1 L R h1 h2 h3 wC S tg job st0 n S' m w bs' := by
 obtain ⟨a, b, c, d, e⟩ := h
 exact ⟨a, b, c, fun p hp => d p (hs p hp), e⟩
theorem runN_kp {S' : Nat → Prop} {m : Nat} {w : World} {bs : List (Nat × Obj)} (h : RunN K hiso hin G B0 B1 L R h1 h2 h3 wC S tg job st0 n S' m w bs) (g : Nat) (hg : g < wC.heap.size) (hS : ¬ S g) : w.heap[g]? = wC.heap[g]? := h.2.2.1.block g hg hS
theorem r1N_good (V : Array Value) : Good wC S (R1N K hiso hin G B0 B1 L R h1 h2 h3 wC S tg job st0 n V) where
 al := fun ⟨a, S', m, b0, b, c⟩ o => ⟨a.alloc (b.2.2.1.size) o, S', m, b0, runN_alloc K hiso hin G B0 B1 L R h1 h2 h3 wC S tg job st0 n b o, c.mv ((Mv.refl _ _).alloc o)⟩
 sub := fun ⟨a, S', m, b0, b, c⟩ hs => ⟨fun p hp => a p (hs p hp), S', m, b0, runN_sub K hiso hin G B0 B1 L R h1 h2 h3 wC S tg job st0 n b hs, c⟩
 has := fun h => h.1
 kp := fun ⟨_, _, _, _, b, _⟩ g hg hS => runN_kp K hiso hin G B0 B1 L R h1 h2 h3 wC S tg job st0 n b g hg hS
theorem r2N_good (Vr Vq : Array Value) : Good wC S (R2N K hiso hin G B0 B1 L R h1 h2 h3 wC S tg job st0 n Vr Vq) where
 al := fun ⟨a, S', m, A, c, b, hu, hA, hr⟩ o => ⟨a.alloc (b.2.2.1.size) o, S', m, A, c, runN_alloc K hiso hin G B0 B1 L R h1 h2 h3 wC S tg job st0 n b o, hu.alloc o, by
  rcases u8_lt hu with h0 | h0
  ·exact .inl h0
  ·refine hA.imp id ?_
   rintro ⟨x, e, h⟩
   refine ⟨x, e, fun p hp => ?_⟩
   rcases List.mem_cons.1 hp with rfl | hp
   ·have := h0 x e; show _ ≠ _; omega
   ·exact h p hp, hr⟩
 sub := fun ⟨a, S', m, A, c, b, hu, hA, hr⟩ hs => ⟨fun p hp => a p (hs p hp), S', m, A, c, runN_sub K hiso hin G B0 B1 L R h1 h2 h3 wC S tg job st0 n b hs, hu, hA.imp id fun ⟨x, e, h⟩ => ⟨x, e, fun p hp => h p (hs p hp)⟩, hr⟩
 has := fun h => h.1
 kp := fun ⟨_, _, _, _, _, b, _⟩ g hg hS => runN_kp K hiso hin G B0 B1 L R h1 h2 h3 wC S tg job st0 n b g hg hS
theorem r2N_wr (hB0 : B0 ≤ wC.heap.size) {Vr Vq : Array Value} {w w' : World} {bs bs' : List (Nat × Obj)} {bx : Nat} (o : Obj) (h : R2N K hiso hin G B0 B1 L R h1 h2 h3 wC S tg job st0 n Vr Vq w bs) (hb : (bx, o) ∈ bs) (hW : Wrote bx w w') (hH : Has wC w' bs') (hs : ∀ p ∈ bs', p.1 = bx ∨ p ∈ bs) :
  R2N K hiso hin G B0 B1 L R h1 h2 h3 wC S tg job st0 n Vr Vq w' bs' := by
 obtain ⟨a, S', m, A, c, ⟨b1, b2, b3, b4, b5⟩, hu, hA, hr⟩ := h
 have hn := b4 _ hb
 have hge := (a _ hb).2
 refine ⟨hH, S', m, A, c, ⟨b1, b2, b3.wrote hW hge, fun p hp => ?_, Bus.wrote b5 hW ?_ hn⟩, u8_to hu ?_, hA.imp id ?_, hr⟩
 ·rcases hs p hp with e | h
  ·rw [e]; exact hn
  ·exact b4 p h
 ·exact Nat.le_trans hB0 hge
 ·refine hA.imp id fun ⟨x, e, h⟩ y ey => ?_
  rw [e] at ey
  cases ey
  exact hW.other _ (fun e' => h _ hb e'.symm)
 ·rintro ⟨x, e, h⟩
  refine ⟨x, e, fun p hp => ?_⟩
  rcases hs p hp with e' | h'
  ·rw [e']; exact h _ hb
  ·exact h p h'
theorem r2N_sz {Vr Vq : Array Value} {w : World} {bs : List (Nat × Obj)} (h : R2N K hiso hin G B0 B1 L R h1 h2 h3 wC S tg job st0 n Vr Vq w bs) : Vr.size = 4 ∧ Vq.size = 11 ∧ Vr.toList.all (·.oneCell') = true ∧ Vq.toList.all (·.oneCell') = true := by
 obtain ⟨a, S', m, A, c, b, _, _, rfl, rfl⟩ := h
 exact ⟨rfl, rfl, rfl, rfl⟩
theorem runN_c (he : K.endp = 2) (hKl : K.offs.length = K.on) (hoff : ∀ b ∈ K.offs, b.length ≤ 8) (T0 : List Int) (hI : (mN K hiso hin G B0 B1 L R h1 h2 h3).I wC S st0) (hsyn : SynI K T0 job (h0N tg job) st0.2) (hn : n ≤ 800) (hjob : job ≤ 1000)
  (hat : st0.2.at_ ≤ 100000) (hon : K.on ≤ 1000) (hmy : st0.2.many ≤ 1000) (htk : st0.2.taken.length ≤ 1000)
  (w : World) (bs : List (Nat × Obj)) (h : P0 wC w bs) :
  Calls Tryz.prog 12 #[.agg (strV 5 2 true 2 8 0 1 0 1 tg false tg false (job : Int) none 0 0 none 0 0 0 0 (decide (job = 0)) 0 none 0 0 0), .iface 32 (.pointer (some ⟨G, 0, none⟩)), .iface 35 (.pointer (some ⟨L, 0, none⟩)), .int .i64 (n : Int)] w fun e w' =>
   ∃ V, e = .returned (.agg V) ∧ R1N K hiso hin G B0 B1 L R h1 h2 h3 wC S tg job st0 n V w' bs := by
 obtain ⟨m, hmn, hm1, hm2⟩ := exists_stop (fun k => (stN K B0 L R tg job st0 k).2.over) n
 have hlt : ∀ i, S i → i < wC.heap.size := fun i hi => (mN K hiso hin G B0 B1 L R h1 h2 h3).lt hI i hi
 have hsz := h.1.size
 have H := sin_runs K hiso hin G B0 B1 h1 h2 (lineWire B0 L R) h3 he hKl hoff tg job hjob m w.heap.size (by omega) st0 (h0N tg job) T0 hsyn hm1 hat hon hmy htk
 refine (run_stop (mN K hiso hin G B0 B1 L R h1 h2 h3) n m (by omega) hmn w (fun k => (stN K B0 L R tg job st0 k).1) _ _ _ H ?_ S _ ?_ (Bus.below (M := mN K hiso hin G B0 B1 L R h1 h2 h3) hI (h.1))).mono ?_
 ·rintro hlt' wr S' V ⟨DA, dc, IA, im, ic, ins, rfl, _⟩
  have hov : (sinK (lineWire B0 L R) K job st0 (h0N tg job) m).2.over = true := hm2 hlt'
  rw [hov]
  exact pipe_overB 5 2 true 2 8 0 1 0 1 tg false _ _ _ _ _ _ _ _ _ _ _ _ _ _ _ _ _ _ _ _ _ _ _ _ _ _ _ _ _ _ _ _ _ _ _ wr rfl rfl (fun w' _ => bnx_over true 2 8 _ false _ none 0 0 DA _ dc _ _ _ w' rfl)
 ·exact ⟨none, 0, none, 0, 0, [], rfl, ⟨⟨rfl, fun x hx => (nomatch hx), Nat.le_refl _, .inl ⟨rfl, rfl, rfl⟩⟩, .inl rfl, .inl rfl⟩, ⟨⟨rfl, fun x hx => (nomatch hx), Nat.le_refl _, .inl ⟨rfl, rfl, rfl⟩⟩, .inl rfl, .inl rfl⟩, fun _ => rfl, by omega⟩
 ·rintro e w' ⟨S', V, rfl, hN, hI', hmv⟩
  have hmC : Mv S wC S' w' := ((Mv.refl S wC).below h.1).trans hmv
  have hnS : ∀ p ∈ bs, ¬ S' p.1 := fun p hp hs => by
   have hpl := h.2.lt hp
   have := hmv.sub _ hpl hs
   have := hlt _ this
   have := (h.2 p hp).2
   omega
  refine ⟨_, rfl, ?_, S', m, w.heap.size, ⟨hmn, hm1, hmC, hnS, hI'⟩, hN⟩
  exact h.2.keep fun p hp => hmv.block _ (h.2.lt hp) (fun hs => by have := hlt _ hs; have := (h.2 p hp).2; omega)
set_option maxRecDepth 1000000 in
theorem stopN_c (hKl : K.offs.length = K.on) (T0 : List Int) (hsyn : SynI K T0 job (h0N tg job) st0.2) (hjob : job ≤ 1000) (hlS : ∀ w, Mv S wC S w → LaidW w stG)
  (w : World) (V : Array Value) (bs : List (Nat × Obj)) (h : R1N K hiso hin G B0 B1 L R h1 h2 h3 wC S tg job st0 n V w bs) :
  Calls Tryz.prog 11 #[.agg V] w fun e w' => ∃ Vr Vq, e = .returned (.tuple #[.agg Vr, .agg Vq]) ∧ R2N K hiso hin G B0 B1 L R h1 h2 h3 wC S tg job st0 n Vr Vq w' bs := by
 obtain ⟨a, S', m, b0, ⟨b1, b2, b3, b4, b5⟩, DA, dc, IA, im, ic, ins, rfl, hD, hI, hins, him⟩ := h
 have hsy := (sinK_facts (lineWire B0 L R) K hKl job st0 (h0N tg job) T0 hsyn m b2 m (Nat.le_refl _)).1
 have hlw : LaidW w stG := hlS w ⟨b3.os, b3.tape, b3.output, b3.size, b3.block, fun _ _ h => h⟩
 have hfin : ∀ (tgx : Bool) (hb : Bool) (e : Int), e = stNE (stN K B0 L R tg job st0 m).2 → hb = stNHa (stN K B0 L R tg job st0 m).2 → ∀ e0 w', StopIn (stN K B0 L R tg job st0 m).2.tg hb e ((stN K B0 L R tg job st0 m).2.got.length : Int) (stN K B0 L R tg job st0 m).2.got w e0 w' →
   ∃ Vr Vq, e0 = .returned (.tuple #[.agg Vr, .agg Vq]) ∧ R2N K hiso hin G B0 B1 L R h1 h2 h3 wC S tg job st0 n Vr Vq w' bs := by
  rintro tgx hb e rfl rfl e0 w' ⟨hbl, A, c, rfl, hu, hA⟩
  refine ⟨_, _, rfl, a.below hbl, S', m, A, c, ⟨b1, b2, b3.below hbl, b4, Bus.below b5 hbl⟩, hu, hA.imp id ?_, rfl, rfl⟩
  rintro ⟨g, e, hg⟩
  exact ⟨_, e, fun p hp => by have := a.lt hp; show p.1 ≠ g; omega⟩
 have hst : sinK (lineWire B0 L R) K job st0 (h0N tg job) m = stN K B0 L R tg job st0 m := rfl
 rw [hst] at hsy
 generalize stN K B0 L R tg job st0 m = s at *
 obtain ⟨s1, tg', got, er, over, e⟩ := s
 dsimp only at *
 have hgl := hsy.len
 dsimp only at hgl
 cases over with
 | false =>
  obtain rfl := hins rfl
  have he0 : e = 0 := (hsy.run rfl).1
  subst he0
  obtain rfl : ins.length = im := hI.1.1
  refine (stop_run tg tg' (job : Int) DA ins.length dc (ins.length : Int) (er : Int) 0 IA ins.length ic ins w (by omega) hI.1 (by omega)).mono ?_
  intro e0 w' hS
  exact hfin tg' false 17 rfl rfl e0 w' hS
 | true =>
  have hee : e = 0 ∨ e = 11 ∨ e = 12 ∨ e = 13 := (hsy.fin rfl).imp (·.1) id
  obtain ⟨mb, hmb, hlk⟩ := halts_look hlw
  have hlook : ∀ w', Below w.heap.size w w' → (Instr.lookup 116 (.map mb) (.int .i64 e) false).run Tryz.prog w' = .ok (.bool (decide (e ≠ 0))) w' := by
   intro w' hb
   obtain ⟨mb', hmb', hlk'⟩ := halts_look (laid_belowN hlw hb)
   have e2 := (hb.cell (World.block_lt_of_cell? _ _ hmb)).trans hmb
   rw [hmb'] at e2
   injection e2 with e2
   injection e2 with e2
   subst e2
   exact hlk' e hee
  refine (stop_over tg tg' (job : Int) DA got.length dc (got.length : Int) (er : Int) e IA im ic got w (by omega) (decide (e ≠ 0)) mb hmb hlook hD.1 (by omega)).mono ?_
  intro e0 w' hS
  exact hfin tg' (decide (e ≠ 0)) e rfl rfl e0 w' hS
end
end Go.Proofs.YtiajboiobjfcoaaGreatDoor
