/-
  What is proved here: the calls of the law's region 14, OUT, in any world that has what they need.
  Conditions: what the device's, the packets' and the faults' cells hold at the beginning.
-/
import Derived.Test.YtiajboiobjfcoaaGreatDoorOFin
import Derived.Test.YtiajboiobjfcoaaGreatDoorOR14
import Derived.Test.YtiajboiobjfcoaaGreatDoorOStop
namespace Go.Proofs.YtiajboiobjfcoaaGreatDoor
open Go.Proofs Go.RowKit Go.Sy
def kO (ws : List Int) (aA : Option Addr) (an ac : Nat) : GrK := ⟨2, false, false, ws, aA, an, ac, [], [], none, 0, 0⟩
def mO (ws : List Int) (aA : Option Addr) (an ac G B0 B1 L R : Nat) (h1 : B0 ≤ B1) (h2 : G < B1) (h3 : ∀ i, (i = L ∨ i = R) → B0 ≤ i ∧ i < B1 ∧ i ≠ G) : Bus :=
 outBus (kO ws aA an ac) rfl rfl G B0 B1 h1 h2 (lineWire B0 L R) h3
theorem exists_stop (p : Nat → Bool) (n : Nat) : ∃ m, m ≤ n ∧ (∀ k, k < m → p k = false) ∧ (m < n → p m = true) := by
 induction n with
 | zero => exact ⟨0, Nat.le_refl _, fun k hk => by omega, fun h => by omega⟩
 | succ n ih =>
  obtain ⟨m, h1, h2, h3⟩ := ih
  by_cases hm : m < n
  ·exact ⟨m, by omega, h2, fun _ => h3 hm⟩
  ·obtain rfl : m = n := by omega
   cases hp : p m with
   | true => exact ⟨m, by omega, h2, fun _ => hp⟩
   | false => exact ⟨m + 1, by omega, fun k hk => by
     by_cases e : k = m
     ·rw [e]; exact hp
     ·exact h2 k (by omega), fun h => by omega⟩
section
variable (ws : List Int) (aA : Option Addr) (an ac G B0 B1 L R : Nat) (h1 : B0 ≤ B1) (h2 : G < B1) (h3 : ∀ i, (i = L ∨ i = R) → B0 ≤ i ∧ i < B1 ∧ i ≠ G)
 (wC : World) (S : Nat → Prop) (kind per : Int) (tg z : Bool) (job : List Int) (st0 : List Int × GrS) (n : Nat)
def h00 (tg : Bool) : Hst := ⟨tg, 0, 0, false, 0⟩
noncomputable def stK (m : Nat) : (List Int × GrS) × Hst := strK (lineWire B0 L R) (kO ws aA an ac) (cutL 8 z job) st0 (h00 tg) m
def RunO (S' : Nat → Prop) (m : Nat) (w : World) (bs : List (Nat × Obj)) : Prop :=
 m ≤ n ∧ (∀ k, k < m → (stK ws aA an ac B0 L R tg z job st0 k).2.over = false) ∧ Mv S wC S' w ∧ (∀ p ∈ bs, ¬ S' p.1) ∧ (mO ws aA an ac G B0 B1 L R h1 h2 h3).I w S' (stK ws aA an ac B0 L R tg z job st0 m).1
def R1O (V : Array Value) (w : World) (bs : List (Nat × Obj)) : Prop :=
 Has wC w bs ∧ ∃ S' m LA lc, RunO ws aA an ac G B0 B1 L R h1 h2 h3 wC S tg z job st0 n S' m w bs ∧ Pl LA ((cutL 8 z job).length - (stK ws aA an ac B0 L R tg z job st0 m).2.k) ∧
  V = strV 5 2 false kind 8 per 1 0 1 tg false (stK ws aA an ac B0 L R tg z job st0 m).2.tg z 0 LA ((cutL 8 z job).length - (stK ws aA an ac B0 L R tg z job st0 m).2.k) lc none 0 0 (sumTo (cutL 8 z job) (stK ws aA an ac B0 L R tg z job st0 m).2.k : Int) ((stK ws aA an ac B0 L R tg z job st0 m).2.er : Int) (stK ws aA an ac B0 L R tg z job st0 m).2.over (stK ws aA an ac B0 L R tg z job st0 m).2.e none 0 0 (sumTo (cutL 8 z job) (stK ws aA an ac B0 L R tg z job st0 m).2.k : Int)
def R2O (Vr Vq : Array Value) (w : World) (bs : List (Nat × Obj)) : Prop :=
 Has wC w bs ∧ ∃ S' m A cap, RunO ws aA an ac G B0 B1 L R h1 h2 h3 wC S tg z job st0 n S' m w bs ∧
  Vr = #[.int .i64 (stE (stK ws aA an ac B0 L R tg z job st0 m).2), .slice A 0 cap, .int .i64 (sumTo (cutL 8 z job) (stK ws aA an ac B0 L R tg z job st0 m).2.k : Int), .slice none 0 0] ∧
  Vq = spC kind per false (stK ws aA an ac B0 L R tg z job st0 m).2.tg (stHa (stK ws aA an ac B0 L R tg z job st0 m).2)
theorem runO_alloc {S' : Nat → Prop} {m : Nat} {w : World} {bs : List (Nat × Obj)} (h : RunO ws aA an ac G B0 B1 L R h1 h2 h3 wC S tg z job st0 n S' m w bs) (o : Obj) : RunO ws aA an ac G B0 B1 L R h1 h2 h3 wC S tg z job st0 n S' m (w.alloc o) ((w.heap.size, o) :: bs) := by
 obtain ⟨a, b, c, d, e⟩ := h
 refine ⟨a, b, c.alloc o, fun p hp => ?_, Bus.below e ((Below.refl _ w).alloc (Nat.le_refl _) o)⟩
 rcases List.mem_cons.1 hp with rfl | hp
 ·exact Bus.new e (Nat.le_refl _)
 ·exact d p hp
theorem runO_sub {S' : Nat → Prop} {m : Nat} {w : World} {bs bs' : List (Nat × Obj)} (h : RunO ws aA an ac G B0 B1 L R h1 h2 h3 wC S tg z job st0 n S' m w bs) (hs : ∀ p ∈ bs', p ∈ bs) : RunO ws aA an ac G B0 B1 L R h1 h2 h3 wC S tg z job st0 n S' m w bs' := by
 obtain ⟨a, b, c, d, e⟩ := h
 exact ⟨a, b, c, fun p hp => d p (hs p hp), e⟩
theorem runO_kp {S' : Nat → Prop} {m : Nat} {w : World} {bs : List (Nat × Obj)} (h : RunO ws aA an ac G B0 B1 L R h1 h2 h3 wC S tg z job st0 n S' m w bs) (g : Nat) (hg : g < wC.heap.size) (hS : ¬ S g) : w.heap[g]? = wC.heap[g]? := h.2.2.1.block g hg hS
theorem r1_good (V : Array Value) : Good wC S (R1O ws aA an ac G B0 B1 L R h1 h2 h3 wC S kind per tg z job st0 n V) where
 al := fun ⟨a, S', m, LA, lc, b, c⟩ o => ⟨a.alloc (b.2.2.1.size) o, S', m, LA, lc, runO_alloc ws aA an ac G B0 B1 L R h1 h2 h3 wC S tg z job st0 n b o, c⟩
 sub := fun ⟨a, S', m, LA, lc, b, c⟩ hs => ⟨fun p hp => a p (hs p hp), S', m, LA, lc, runO_sub ws aA an ac G B0 B1 L R h1 h2 h3 wC S tg z job st0 n b hs, c⟩
 has := fun h => h.1
 kp := fun ⟨_, _, _, _, _, b, _⟩ g hg hS => runO_kp ws aA an ac G B0 B1 L R h1 h2 h3 wC S tg z job st0 n b g hg hS
theorem r2_good (Vr Vq : Array Value) : Good wC S (R2O ws aA an ac G B0 B1 L R h1 h2 h3 wC S kind per tg z job st0 n Vr Vq) where
 al := fun ⟨a, S', m, A, cap, b, c⟩ o => ⟨a.alloc (b.2.2.1.size) o, S', m, A, cap, runO_alloc ws aA an ac G B0 B1 L R h1 h2 h3 wC S tg z job st0 n b o, c⟩
 sub := fun ⟨a, S', m, A, cap, b, c⟩ hs => ⟨fun p hp => a p (hs p hp), S', m, A, cap, runO_sub ws aA an ac G B0 B1 L R h1 h2 h3 wC S tg z job st0 n b hs, c⟩
 has := fun h => h.1
 kp := fun ⟨_, _, _, _, _, b, _⟩ g hg hS => runO_kp ws aA an ac G B0 B1 L R h1 h2 h3 wC S tg z job st0 n b g hg hS
theorem r2_wr (hB0 : B0 ≤ wC.heap.size) {Vr Vq : Array Value} {w w' : World} {bs bs' : List (Nat × Obj)} {bx : Nat} (o : Obj) (h : R2O ws aA an ac G B0 B1 L R h1 h2 h3 wC S kind per tg z job st0 n Vr Vq w bs) (hb : (bx, o) ∈ bs) (hW : Wrote bx w w') (hH : Has wC w' bs') (hs : ∀ p ∈ bs', p.1 = bx ∨ p ∈ bs) :
  R2O ws aA an ac G B0 B1 L R h1 h2 h3 wC S kind per tg z job st0 n Vr Vq w' bs' := by
 obtain ⟨a, S', m, A, cap, ⟨b1, b2, b3, b4, b5⟩, c⟩ := h
 have hn := b4 _ hb
 have hge := (a _ hb).2
 refine ⟨hH, S', m, A, cap, ⟨b1, b2, b3.wrote hW hge, fun p hp => ?_, Bus.wrote b5 hW ?_ hn⟩, c⟩
 ·rcases hs p hp with e | h
  ·rw [e]; exact hn
  ·exact b4 p h
 ·exact Nat.le_trans hB0 hge
theorem r2_sz {Vr Vq : Array Value} {w : World} {bs : List (Nat × Obj)} (h : R2O ws aA an ac G B0 B1 L R h1 h2 h3 wC S kind per tg z job st0 n Vr Vq w bs) : Vr.size = 4 ∧ Vq.size = 11 ∧ Vr.toList.all (·.oneCell') = true ∧ Vq.toList.all (·.oneCell') = true := by
 obtain ⟨a, S', m, A, cap, b, rfl, rfl⟩ := h
 exact ⟨rfl, rfl, rfl, rfl⟩
theorem run_c (kp : SpK kind per) (T0 : List Int) (m0 : Nat) (hI : (mO ws aA an ac G B0 B1 L R h1 h2 h3).I wC S st0) (hsyn : Syn (cutL 8 z job) T0 m0 (h00 tg) st0.2) (LA : Option Addr) (lc : Nat)
  (hpl : Pl LA (cutL 8 z job).length) (hpk : PkOn (fun i => i < wC.heap.size ∧ ¬ S i) wC LA (cutL 8 z job).length lc (cutL 8 z job)) (hn : n ≤ 800) (hT : T0.length ≤ 1000) (hm0 : m0 ≤ 100000) (hat : st0.2.at_ ≤ 100000) (hnx : st0.2.nx ≤ 1000) (hj : job.length ≤ 300)
  (w : World) (bs : List (Nat × Obj)) (h : P0 wC w bs) :
  Calls Tryz.prog 12 #[.agg (strV 5 2 false kind 8 per 1 0 1 tg false tg z 0 LA (cutL 8 z job).length lc none 0 0 0 0 false 0 none 0 0 0), .iface 32 (.pointer (some ⟨G, 0, none⟩)), .iface 35 (.pointer (some ⟨L, 0, none⟩)), .int .i64 (n : Int)] w fun e w' =>
   ∃ V, e = .returned (.agg V) ∧ R1O ws aA an ac G B0 B1 L R h1 h2 h3 wC S kind per tg z job st0 n V w' bs := by
 obtain ⟨m, hmn, hm1, hm2⟩ := exists_stop (fun k => (stK ws aA an ac B0 L R tg z job st0 k).2.over) n
 have hcnt := cutL_count 8 z job (by omega)
 have hd8 := Nat.div_le_self job.length 8
 have hk0 : (kind == 0) = false := by rcases kp with ⟨rfl, _⟩ | ⟨rfl, _⟩ <;> rfl
 have hk1 : (kind == 1) = false := by rcases kp with ⟨rfl, _⟩ | ⟨rfl, _⟩ <;> rfl
 have hkk : kind = 2 ∨ kind = 3 := kp.imp (·.1) (·.1)
 have hlt : ∀ i, S i → i < wC.heap.size := fun i hi => (mO ws aA an ac G B0 B1 L R h1 h2 h3).lt hI i hi
 have hsz := h.1.size
 have H := str_runs (kO ws aA an ac) rfl rfl G B0 B1 h1 h2 (lineWire B0 L R) h3 rfl kind per hkk tg z (cutL 8 z job) (cutL_le z job) (by omega) m w.heap.size (by omega) st0 (h00 tg) T0 m0 hsyn hm1 hT hm0 hat hnx
 refine (run_stop (mO ws aA an ac G B0 B1 L R h1 h2 h3) n m (by omega) hmn w (fun k => (stK ws aA an ac B0 L R tg z job st0 k).1) _ _ _ H ?_ S _ ?_ (Bus.below (M := mO ws aA an ac G B0 B1 L R h1 h2 h3) hI (h.1))).mono ?_
 ·rintro hlt' wr S' V ⟨LA', lc', rfl, _, _⟩
  have hov : (strK (lineWire B0 L R) (kO ws aA an ac) (cutL 8 z job) st0 (h00 tg) m).2.over = true := hm2 hlt'
  rw [hov]
  exact pipe_overB 5 2 false kind 8 per 1 0 1 tg false _ _ _ _ _ _ _ _ _ _ _ _ _ _ _ _ _ _ _ _ _ _ _ _ _ _ _ _ _ _ _ _ _ _ _ wr hk0 hk1 (fun w' _ => bnx_over false 2 8 _ z 0 LA' _ lc' none 0 0 _ _ _ w' rfl)
 ·exact ⟨LA, lc, by rw [show (strK (lineWire B0 L R) (kO ws aA an ac) (cutL 8 z job) st0 (h00 tg) 0).2 = h00 tg from rfl]; unfold h00; simp [sumTo_zero], (hpk.on fun i hi => h.1.block i hi.1).wide fun i hi => ⟨by omega, by omega, hi.2⟩, hpl⟩
 ·rintro e w' ⟨S', V, rfl, ⟨LA', lc', rfl, _, hpl'⟩, hI', hmv⟩
  have hmC : Mv S wC S' w' := ((Mv.refl S wC).below h.1).trans hmv
  have hnS : ∀ p ∈ bs, ¬ S' p.1 := fun p hp hs => by
   have hpl := h.2.lt hp
   have := hmv.sub _ hpl hs
   have := hlt _ this
   have := (h.2 p hp).2
   omega
  refine ⟨_, rfl, ?_, S', m, LA', lc', ⟨hmn, hm1, hmC, hnS, hI'⟩, hpl', rfl⟩
  exact h.2.keep fun p hp => hmv.block _ (h.2.lt hp) (fun hs => by have := hlt _ hs; have := (h.2 p hp).2; omega)
theorem stop_c (kp : SpK kind per) (T0 : List Int) (m0 : Nat) (hsyn : Syn (cutL 8 z job) T0 m0 (h00 tg) st0.2) (hj : job.length ≤ 300) (hlS : ∀ w, Mv S wC S w → LaidW w stG)
  (w : World) (V : Array Value) (bs : List (Nat × Obj)) (h : R1O ws aA an ac G B0 B1 L R h1 h2 h3 wC S kind per tg z job st0 n V w bs) :
  Calls Tryz.prog 11 #[.agg V] w fun e w' => ∃ Vr Vq, e = .returned (.tuple #[.agg Vr, .agg Vq]) ∧ R2O ws aA an ac G B0 B1 L R h1 h2 h3 wC S kind per tg z job st0 n Vr Vq w' bs := by
 obtain ⟨a, S', m, LA, lc, ⟨b1, b2, b3, b4, b5⟩, hpl, rfl⟩ := h
 have hsy := (strK_facts (lineWire B0 L R) (kO ws aA an ac) (cutL 8 z job) st0 (h00 tg) T0 m0 hsyn m b2 m (Nat.le_refl _)).1
 have hcnt := cutL_count 8 z job (by omega)
 have hd8 := Nat.div_le_self job.length 8
 have hact : sumTo (cutL 8 z job) (stK ws aA an ac B0 L R tg z job st0 m).2.k ≤ job.length := (out_fin hsy).le
 refine (stop_ret kp tg z LA _ lc hpl (sumTo (cutL 8 z job) (stK ws aA an ac B0 L R tg z job st0 m).2.k) (stK ws aA an ac B0 L R tg z job st0 m).2 (fun h => ?_) (fun h => (hsy.run h).2.1) (by omega) hsy.er (by omega) w ?_).mono ?_
 ·rcases hsy.fin h with ⟨h, _⟩ | ⟨h | h, _⟩
  ·exact .inl h
  ·exact .inr (.inl h)
  ·exact .inr (.inr h)
 ·exact hlS w ⟨b3.os, b3.tape, b3.output, b3.size, b3.block, fun _ _ h => h⟩
 ·rintro e w' ⟨hb, A, cap, rfl⟩
  exact ⟨_, _, rfl, a.below hb, S', m, A, cap, ⟨b1, b2, b3.below hb, b4, Bus.below b5 hb⟩, rfl, rfl⟩
end
end Go.Proofs.YtiajboiobjfcoaaGreatDoor
