/-
  What is proved here: what the law's run returns for a stream IN.
  Conditions: what the work's and the device's cells hold.
-/
import Derived.Test.YtiajboiobjfcoaaGreatDoorNPans
import Derived.Test.YtiajboiobjfcoaaGreatDoorNBend
import Derived.Test.YtiajboiobjfcoaaGreatDoorILine
import Derived.Test.YtiajboiobjfcoaaGreatDoorORun
namespace Go.Proofs.YtiajboiobjfcoaaGreatDoor
open Go.Proofs Go.RowKit
def sinK {B0 : Nat} (W : Wire B0) (K : GrK) (n : Nat) (s0 : W.τ × GrS) (h0 : HIn) : Nat → (W.τ × GrS) × HIn
 | 0 => (s0, h0)
 | k + 1 => ((strIn W.nx K (sinK W K n s0 h0 k).1 (sinK W K n s0 h0 k).2.tg).2, (sinK W K n s0 h0 k).2.ans n (strIn W.nx K (sinK W K n s0 h0 k).1 (sinK W K n s0 h0 k).2.tg).1)
def sinR {B0 : Nat} (W : Wire B0) (K : GrK) (n : Nat) (s0 : W.τ × GrS) (h0 : HIn) (k : Nat) : Int × List Int :=
 (strIn W.nx K (sinK W K n s0 h0 k).1 (sinK W K n s0 h0 k).2.tg).1
theorem ack_same (s : GrS) : s.ack.at_ = s.at_ ∧ s.ack.many = s.many ∧ s.ack.taken = s.taken ∧ s.ack.nx ≤ s.nx + 1 := by
 unfold GrS.ack
 split <;> simp
theorem giveB_same (K : GrK) (s : GrS) : (s.giveB K).2.at_ = s.at_ + 1 ∧ (s.giveB K).2.many = s.many ∧ (s.giveB K).2.taken = s.taken ∧ (s.giveB K).2.nx = s.nx := by
 rcases giveB_cases K s with h | h | ⟨_, h⟩ <;> rw [h] <;> simp
theorem strIn_at {τ : Type} (nx : τ → Int × τ) (K : GrK) (s : τ × GrS) (tg : Bool) : (strIn nx K s tg).2.2.at_ ≤ s.2.at_ + 1 ∧ (strIn nx K s tg).2.2.many = s.2.many ∧ (strIn nx K s tg).2.2.taken = s.2.taken := by
 have hg := giveB_same K { s.2 with wt := false, tk := false }
 unfold strIn
 dsimp only at hg ⊢
 generalize GrS.giveB K { tg := s.2.tg, at_ := s.2.at_, nx := s.2.nx, wt := false, tk := false, taken := s.2.taken, many := s.2.many } = r at hg ⊢
 obtain ⟨h1, h2, h3, _⟩ := hg
 obtain ⟨a1, a2, a3, _⟩ := ack_same r.2
 split
 ·split
  ·split
   ·exact ⟨by dsimp only; omega, h2, h3⟩
   ·dsimp only
    split
    ·exact ⟨by omega, a2.trans h2, a3.trans h3⟩
    ·exact ⟨by omega, h2, h3⟩
  ·exact ⟨by dsimp only; omega, h2, h3⟩
 ·exact ⟨by dsimp only; omega, rfl, rfl⟩
theorem strIn_res {τ : Type} (nx : τ → Int × τ) (K : GrK) (hl : ∀ b ∈ K.offs, b.length ≤ 8) (s : τ × GrS) (tg : Bool) :
  ((strIn nx K s tg).1.1 = 1 ∧ (strIn nx K s tg).1.2.length ≤ 8) ∨ (((strIn nx K s tg).1.1 = 2 ∨ (strIn nx K s tg).1.1 = 3 ∨ (strIn nx K s tg).1.1 = 4 ∨ (strIn nx K s tg).1.1 = 6) ∧ (strIn nx K s tg).1.2 = []) := by
 have hb : (K.offs[s.2.nx]?.getD []).length ≤ 8 := by
  cases h : K.offs[s.2.nx]? with
  | none => simp
  | some b => exact hl b (List.mem_of_getElem? h)
 unfold strIn
 split
 ·split
  ·rcases giveB_cases K { s.2 with wt := false, tk := false } with h | h | ⟨_, h⟩ <;> rw [h]
   ·right; simp [hsV]
   ·right; simp [hsV]
   ·dsimp only [Option.getD_some]
    rw [if_neg (by split <;> simp)]
    generalize (if s.2.tg = true then (11 : Int) else 3) = p
    by_cases h' : decide (p = 11) = tg
    ·left; simp only [h', if_true]; exact ⟨trivial, hb⟩
    ·right; simp only [h', if_false]; simp
  ·right; simp
 ·right; simp
section
variable {B0 : Nat} (W : Wire B0) (K : GrK) (hK : K.offs.length = K.on) (n : Nat) (s0 : W.τ × GrS) (h0 : HIn) (T0 : List Int)
include hK in
theorem sinK_facts (h : SynI K T0 n h0 s0.2) (m : Nat) (hm : ∀ k, k < m → (sinK W K n s0 h0 k).2.over = false) (k : Nat) (hk : k ≤ m) :
  SynI K T0 n (sinK W K n s0 h0 k).2 (sinK W K n s0 h0 k).1.2 ∧ (sinK W K n s0 h0 k).1.2.at_ ≤ s0.2.at_ + k ∧ (sinK W K n s0 h0 k).1.2.many = s0.2.many ∧ (sinK W K n s0 h0 k).1.2.taken = s0.2.taken := by
 induction k with
 | zero => exact ⟨h, by simp [sinK], rfl, rfl⟩
 | succ k ih =>
  obtain ⟨h1, h2, h3, h4⟩ := ih (by omega)
  obtain ⟨a1, a2, a3⟩ := strIn_at W.nx K (sinK W K n s0 h0 k).1 (sinK W K n s0 h0 k).2.tg
  exact ⟨synI_step W.nx K hK T0 n _ _ h1 (hm k (by omega)), by show (strIn W.nx K _ _).2.2.at_ ≤ _; omega, a2.trans h3, a3.trans h4⟩
end
def UF (w : World) (S : Nat → Prop) (b0 : Nat) (A : Option Addr) (n c : Nat) (xs : List Int) : Prop := U8 w A n c xs ∧ Far S b0 A n ∧ Pl A n
theorem UF.mv {w w' : World} {S S' : Nat → Prop} {b0 n c : Nat} {A : Option Addr} {xs : List Int} (h : UF w S b0 A n c xs) (hm : Mv S w S' w') : UF w' S' b0 A n c xs := by
 obtain ⟨hu, hf, hp⟩ := h
 refine ⟨u8_to hu ?_, hf.mv hm (u8_lt hu), hp⟩
 rcases hf with h0 | ⟨a, rfl, h1, _⟩
 ·exact .inl h0
 ·exact (u8_lt hu).imp id fun hl a' e => by cases e; exact hm.block _ (hl a rfl) h1
theorem UF.bx {w w' : World} {S : Nat → Prop} {b0 n c g : Nat} {A : Option Addr} {xs : List Int} (h : UF w S b0 A n c xs) (hW : Wrote g w w') (h0 : b0 ≤ g) (h1 : g ≤ b0 + 1) : UF w' S b0 A n c xs := by
 obtain ⟨hu, hf, hp⟩ := h
 exact ⟨u8_to hu (hf.imp id fun ⟨a, e, _, h2⟩ a' e' => by rw [e] at e'; cases e'; exact hW.other _ (by omega)), hf, hp⟩
def NWk (ptg : Bool) (n b0 : Nat) (h : HIn) (w : World) (S : Nat → Prop) (V : Array Value) : Prop :=
 ∃ DA dc IA im ic ins, V = strV 5 2 true 2 8 0 1 0 1 ptg false h.tg false (n : Int) none 0 0 DA h.got.length dc (h.got.length : Int) (h.er : Int) h.over h.e IA im ic 0 ∧ UF w S b0 DA h.got.length dc h.got ∧ UF w S b0 IA im ic ins ∧ (h.over = false → ins = h.got) ∧ im ≤ 2000
theorem NWk.mv {ptg : Bool} {n b0 : Nat} {h : HIn} {w w' : World} {S S' : Nat → Prop} {V : Array Value} (hw : NWk ptg n b0 h w S V) (hm : Mv S w S' w') : NWk ptg n b0 h w' S' V := by
 obtain ⟨DA, dc, IA, im, ic, ins, e, h1, h2, h3⟩ := hw
 exact ⟨DA, dc, IA, im, ic, ins, e, h1.mv hm, h2.mv hm, h3⟩
theorem NWk.bx {ptg : Bool} {n b0 g : Nat} {h : HIn} {w w' : World} {S : Nat → Prop} {V : Array Value} (hw : NWk ptg n b0 h w S V) (hW : Wrote g w w') (h0 : b0 ≤ g) (h1 : g ≤ b0 + 1) : NWk ptg n b0 h w' S V := by
 obtain ⟨DA, dc, IA, im, ic, ins, e, h2, h3, h4⟩ := hw
 exact ⟨DA, dc, IA, im, ic, ins, e, h2.bx hW h0 h1, h3.bx hW h0 h1, h4⟩
section
variable (K : GrK) (hiso : K.iso = false) (hin : K.inn = true) (G B0 B1 : Nat) (hG : B0 ≤ B1) (hGB : G < B1) (W : Wire B0) (hWo : ∀ i, W.own i → B0 ≤ i ∧ i < B1 ∧ i ≠ G)
theorem speak_grN (p : Pk) (dev : Bool) (t : W.τ) (g : GrS) : ((inBus K hiso hin G B0 B1 hG hGB W hWo).speak dev (t, g) p).2.2 = g ∨ ((inBus K hiso hin G B0 B1 hG hGB W hWo).speak dev (t, g) p).2.2 = (g.hearIn K p).2 := by
 unfold Bus.speak
 split
 ·have e : (inBus K hiso hin G B0 B1 hG hGB W hWo).hr ((inBus K hiso hin G B0 B1 hG hGB W hWo).nx (t, g)).2 p = ((g.hearIn K p).1, ((W.nx t).2, (g.hearIn K p).2)) := rfl
  rw [e]
  cases h : (g.hearIn K p).1 with
  | none => exact .inr rfl
  | some q =>
   refine .inr ?_
   dsimp only
   split <;> rfl
 ·exact .inl rfl
theorem in_room (p : Pk) (hp : p.pid = 9) (dev : Bool) (s : W.τ × GrS) (h : s.2.at_ ≤ 1000000 ∧ s.2.nx ≤ 1000000 ∧ s.2.many ≤ 1000000 ∧ s.2.taken.length ≤ 1000000) : GrS.room ((inBus K hiso hin G B0 B1 hG hGB W hWo).speak dev s p).2.2 := by
 obtain ⟨t, g⟩ := s
 dsimp only at h
 rcases speak_grN K hiso hin G B0 B1 hG hGB W hWo p dev t g with e | e
 ·rw [e]; exact ⟨by omega, by omega, by omega, h.2.2.2⟩
 ·rw [e]
  unfold GrS.hearIn
  rw [if_pos hp]
  split
  ·obtain ⟨h1, h2, h3, h4⟩ := giveB_same K { g with wt := false, tk := false }
   dsimp only at h1 h2 h3 h4
   exact ⟨by omega, by omega, by omega, by rw [h3]; exact h.2.2.2⟩
  ·exact ⟨by show g.at_ ≤ _; omega, by show g.nx ≤ _; omega, by show g.many ≤ _; omega, h.2.2.2⟩
set_option maxHeartbeats 4000000 in
theorem sin_runs (he : K.endp = 2) (hK : K.offs.length = K.on) (hoff : ∀ b ∈ K.offs, b.length ≤ 8) (ptg : Bool) (n : Nat) (hn : n ≤ 1000) (m b0 : Nat) (hmn : m ≤ 1000) (s0 : W.τ × GrS) (h0 : HIn) (T0 : List Int)
  (hs : SynI K T0 n h0 s0.2) (hm : ∀ k, k < m → (sinK W K n s0 h0 k).2.over = false) (ha : s0.2.at_ ≤ 100000) (hon : K.on ≤ 1000) (hmy : s0.2.many ≤ 1000) (htk : s0.2.taken.length ≤ 1000) :
  Runs (inBus K hiso hin G B0 B1 hG hGB W hWo) m b0 (fun k => (sinK W K n s0 h0 k).1) (fun k => (sinR W K n s0 h0 k).1) (fun k => (sinR W K n s0 h0 k).2) (fun k => NWk ptg n b0 (sinK W K n s0 h0 k).2) where
 sz := by
  rintro k wr S V ⟨DA, dc, IA, im, ic, ins, rfl, _⟩
  exact ⟨rfl, rfl⟩
 mv := fun h hm => h.mv hm
 bx := fun h hW h0 h1 => h.bx hW h0 h1
 next := by
  rintro k wr S V hk ⟨DA, dc, IA, im, ic, ins, rfl, _⟩ hI
  obtain ⟨hsy, hat, hmy', htk'⟩ := sinK_facts W K hK n s0 h0 T0 hs m hm k (by omega)
  have hov := hm k hk
  have hnx := hsy.on
  have hroom : (sinK W K n s0 h0 k).1.2.room := ⟨by omega, by omega, by omega, by rw [htk']; omega⟩
  unfold strV
  rw [hov]
  refine (pipe_nextB 5 2 true 2 8 0 1 0 1 ptg false _ _ _ _ _ _ _ _ _ _ _ _ _ _ _ _ _ _ _ _ _ _ _ _ _ _ _ _ _ _ _ _ _ _ _ 2 9 (sinK W K n s0 h0 k).2.tg false 8 [] wr rfl rfl (fun w' _ => ?_)).mono ?_
  ·exact bnx_in 2 8 (sinK W K n s0 h0 k).2.tg _ DA _ dc _ _ _ w' rfl
  ·rintro e w1 ⟨hb1, A, mm, c, rfl, hN, hPl⟩
   have hm0 : mm = 0 := by have := hN.1.1; simpa using this.symm
   refine ⟨hb1, _, rfl, rfl, rfl, fun w2 hb2 => ?_⟩
   have hI2 := Bus.below hI (hb1.trans (hb2.mono hb1.size))
   have ho := str_in K hiso hin G B0 B1 hG hGB W hWo he hoff (sinK W K n s0 h0 k).1 (sinK W K n s0 h0 k).2.tg
   refine do_ret (inBus K hiso hin G B0 B1 hG hGB W hWo) 9 5 2 (sinK W K n s0 h0 k).2.tg false 8 A mm c w2 S (sinK W K n s0 h0 k).1 (((sinR W K n s0 h0 k).1, (sinR W K n s0 h0 k).2), (sinK W K n s0 h0 (k + 1)).1) hI2 ?_ (.inl rfl) (fun _ w3 S3 dB wB sB Bx B us hdo hI3 => ?_) (fun h => absurd h (by decide))
   ·exact tck_tok t_in0 (by omega) 5 2 _ false 8 A mm c (by omega) (by omega) (slz_of hPl (by omega)) (by show (0 : Int) ≤ mm ∧ (mm : Int) ≤ 0; omega) (by cases (sinK W K n s0 h0 k).2.tg <;> decide) (by decide) (by decide) (by decide) (fun _ h => h)
   ·have hout := in_ret (inBus K hiso hin G B0 B1 hG hGB W hWo) (dev := true) (k := 0) (by omega) hdo (s := (sinK W K n s0 h0 k).1) 5 2 (sinK W K n s0 h0 k).2.tg false 8 A mm c hI3 (by omega) (ck_token (.inr rfl)) (fun _ => ⟨.inl rfl, hroom⟩) (ck_shake (.inl rfl))
     (fun _ _ => ⟨.inr rfl, in_room K hiso hin G B0 B1 hG hGB W hWo ⟨9, 5, 2, []⟩ rfl true (sinK W K n s0 h0 k).1 ⟨by omega, by omega, by omega, by rw [htk']; omega⟩⟩) (in_ans K hiso hin G B0 B1 hG hGB W hWo hoff)
    rw [ho] at hout
    exact hout
 ans := by
  rintro k wr S V A mm c hk ⟨DA, dc, IA, im, ic, ins, rfl, hD, hI', hins, him0⟩ hI hdd hb0
  obtain ⟨hsy, _, _, _⟩ := sinK_facts W K hK n s0 h0 T0 hs m hm k (by omega)
  have hov := hm k hk
  obtain ⟨he0, her, hgn⟩ := hsy.run hov
  replace hins := hins hov
  have hk2 : (sinK W K n s0 h0 (k + 1)).2 = (sinK W K n s0 h0 k).2.ans n (sinR W K n s0 h0 k) := rfl
  have hres : ((sinR W K n s0 h0 k).1 = 1 ∧ (sinR W K n s0 h0 k).2.length ≤ 8) ∨ (((sinR W K n s0 h0 k).1 = 2 ∨ (sinR W K n s0 h0 k).1 = 3 ∨ (sinR W K n s0 h0 k).1 = 4 ∨ (sinR W K n s0 h0 k).1 = 6) ∧ (sinR W K n s0 h0 k).2 = []) := strIn_res W.nx K hoff (sinK W K n s0 h0 k).1 (sinK W K n s0 h0 k).2.tg
  rw [hk2]
  have hlt : ∀ i, S i → i < wr.heap.size := fun i hi => (inBus K hiso hin G B0 B1 hG hGB W hWo).lt hI i hi
  clear hI hk2 hsy
  generalize sinR W K n s0 h0 k = r at *
  generalize (sinK W K n s0 h0 k).2 = h at *
  obtain ⟨rr, ys⟩ := r
  obtain ⟨tg, got, er, over, e⟩ := h
  dsimp only at *
  subst hov he0 hins
  have hml : ys.length = mm := hdd.1.1
  have hnxt : ∀ w', Below wr.heap.size wr w' → Calls Tryz.prog 37 #[.agg #[.bool true, .int .u8 2, .int .i64 8, .bool tg, .slice none 0 0, .bool false, .int .i64 (n : Int), .slice none 0 0, .slice DA ins.length dc, .int .i64 (ins.length : Int), .int .i64 (er : Int), .bool false, .int .i64 0]] w' fun e w2 => Below w'.heap.size w' w2 ∧ ∃ A n c, e = .returned (.tuple #[.agg #[.int .u8 0, .int .u8 2, .int .u8 9, .bool tg, .bool false, .int .i64 8, .slice A n c], .bool true]) ∧ New8 w' w2 A n c [] ∧ Pl A n :=
   fun w' _ => bnx_in 2 8 tg (n : Int) DA ins.length dc (ins.length : Int) (er : Int) 0 w' rfl
  have hDk : ∀ w', Below wr.heap.size wr w' → UF w' S b0 DA ins.length dc ins := fun w' hb => hD.mv ((Mv.refl S wr).below hb)
  have hIk : ∀ w', Below wr.heap.size wr w' → UF w' S b0 IA im ic ins := fun w' hb => hI'.mv ((Mv.refl S wr).below hb)
  have other : ∀ (res : Int) (er' : Int) (ov' : Bool) (e' : Int), ((res = 2 ∨ res = 3 ∨ res = 4) ∨ (res = 2 ∨ res = 6)) → HIn.ans n ⟨tg, ins, er, false, 0⟩ (res, []) = ⟨tg, ins, er'.toNat, ov', e'⟩ → 0 ≤ er' →
    (∀ w', Below wr.heap.size wr w' → Calls Tryz.prog 40 #[.agg (trV true 2 8 tg false (n : Int) (.slice none 0 0) (.slice DA ins.length dc) (ins.length : Int) (er : Int) false 0), .agg #[.int .u8 res, .slice A 0 c]] w' fun e0 w2 => Below w'.heap.size w' w2 ∧ e0 = .returned (.agg (trV true 2 8 tg false (n : Int) (.slice none 0 0) (.slice DA ins.length dc) (ins.length : Int) er' ov' e'))) →
    Calls Tryz.prog 19 #[.agg (strV 5 2 true 2 8 0 1 0 1 ptg false tg false (n : Int) none 0 0 DA ins.length dc (ins.length : Int) (er : Int) false 0 IA im ic 0), .agg #[.int .u8 res, .slice A 0 c]] wr
     fun e w' => Below wr.heap.size wr w' ∧ ∃ V', e = .returned (.agg V') ∧ NWk ptg n b0 (HIn.ans n ⟨tg, ins, er, false, 0⟩ (res, [])) w' S V' := by
   intro res er' ov' e' hr hans her' hba
   have hp : Calls Tryz.prog 19 #[.agg (strV 5 2 true 2 8 0 1 0 1 ptg false tg false (n : Int) none 0 0 DA ins.length dc (ins.length : Int) (er : Int) false 0 IA im ic 0), .agg #[.int .u8 res, .slice A 0 c]] wr
     (PansEnd (fun _ b1 L1 m1 c1 D1 n1 d1 a1 r1 o1 e1 => b1 = tg ∧ L1 = none ∧ m1 = 0 ∧ c1 = 0 ∧ D1 = DA ∧ n1 = ins.length ∧ d1 = dc ∧ a1 = (ins.length : Int) ∧ r1 = er' ∧ o1 = ov' ∧ e1 = e') 5 2 true 2 8 0 1 0 1 ptg false false (n : Int) IA im ic 0 wr) := by
    rcases hr with hr | hr
    ·refine pansB_no 5 2 true 2 8 0 1 0 1 ptg false tg false (n : Int) none 0 0 DA ins.length dc (ins.length : Int) (er : Int) false 0 IA im ic 0 9 res tg 8 [] A 0 c wr _ rfl rfl hr hnxt (fun w' hbw => ?_) (fun _ _ _ _ _ _ _ _ _ _ _ _ _ _ h => h)
     refine (hba w' hbw).mono ?_
     rintro e0 w2 ⟨h1, rfl⟩
     exact ⟨h1, _, _, _, _, _, _, _, _, _, _, _, rfl, rfl, rfl, rfl, rfl, rfl, rfl, rfl, rfl, rfl, rfl, rfl⟩
    ·refine pansB_again 5 2 true 2 8 0 1 0 1 ptg false tg false (n : Int) none 0 0 DA ins.length dc (ins.length : Int) (er : Int) false 0 IA im ic 0 9 res tg 8 [] A 0 c wr _ rfl rfl hr hnxt (fun w' hbw => ?_) (fun _ _ _ _ _ _ _ _ _ _ _ _ _ _ h => h)
     refine (hba w' hbw).mono ?_
     rintro e0 w2 ⟨h1, rfl⟩
     exact ⟨h1, _, _, _, _, _, _, _, _, _, _, _, rfl, rfl, rfl, rfl, rfl, rfl, rfl, rfl, rfl, rfl, rfl, rfl⟩
   refine hp.mono ?_
   rintro e0 w' ⟨h1, b1, L1, m1, c1, D1, n1, d1, a1, r1, o1, e1, rfl, g1, g2, g3, g4, g5, g6, g7, g8, g9, g10, g11⟩
   refine ⟨h1, _, rfl, DA, dc, IA, im, ic, ins, ?_, ?_, hIk w' h1, ?_, him0⟩
   ·rw [hans]
    dsimp only
    rw [Int.toNat_of_nonneg her', g1, g2, g3, g4, g5, g6, g7, g8, g9, g10, g11]
   ·rw [hans]
    exact hDk w' h1
   ·rw [hans]
    exact fun _ => rfl
  rcases hres with ⟨rfl, hl8⟩ | ⟨hr, rfl⟩
  ·have hm8 : mm ≤ 8 := by omega
   have hil : ins.length ≤ n := by omega
   have hDlt : ∀ w', Below wr.heap.size wr w' → (ins.length = 0 ∨ ∃ a, DA = some a ∧ a.block < w'.heap.size) := fun w' hb => by
    rcases hD.2.1 with h | ⟨a, e, _⟩
    ·exact .inl h
    ·exact (u8_lt hD.1).imp id fun hl => ⟨a, e, Nat.lt_of_lt_of_le (hl a e) hb.size⟩
   have hp := pansB_in 5 2 true 2 8 0 1 0 1 ptg false tg false (n : Int) none 0 0 DA ins.length dc (ins.length : Int) (er : Int) false 0 IA im ic 0 ins ys tg 8 [] A mm c wr
    (fun w2 b1 L1 m1 c1 D1 n1 d1 a1 r1 o1 e1 => L1 = none ∧ m1 = 0 ∧ c1 = 0 ∧ r1 = 0 ∧ ((n < ins.length + mm ∧ b1 = tg ∧ D1 = DA ∧ n1 = ins.length ∧ d1 = dc ∧ a1 = (ins.length : Int) ∧ o1 = true ∧ e1 = 13) ∨
     (ins.length + mm ≤ n ∧ b1 = (!tg) ∧ n1 = ins.length + mm ∧ a1 = ((ins.length + mm : Nat) : Int) ∧ o1 = lastB mm ins.length n ∧ e1 = 0 ∧ U8 w2 D1 n1 d1 (ins ++ ys) ∧ Pl D1 n1 ∧ ((mm = 0 ∧ D1 = DA) ∨ ∃ g', D1 = some ⟨g', 0, none⟩ ∧ wr.heap.size + 1 + 1 < g'))))
    rfl rfl hdd.1 hI'.1 (by omega) (by have := hI'.1.1; omega) hnxt (fun w' hbw hgt => ?_) (fun w2 w3 b1 L1 m1 c1 D1 n1 d1 a1 r1 o1 e1 hk hP => ?_)
   ·refine hp.mono ?_
    rintro e0 w' ⟨h1, b1, L1, m1, c1, D1, n1, d1, a1, r1, o1, e1, IA', ic', rfl, ⟨rfl, rfl, rfl, rfl, g5⟩, ho⟩
    have hrng : ∀ x ∈ ins ++ ys, 0 ≤ x ∧ x ≤ 255 := fun x hx => (List.mem_append.1 hx).elim (hD.1.2.1 x) (hdd.1.2.1 x)
    have hIu : UF w' S b0 IA' (im + mm) ic' (ins ++ ys) := by
     obtain ⟨A2, c2, e2, hu2, hf2⟩ := u8_row hrng ho
     injection e2 with e21 _ e23
     subst e21 e23
     refine ⟨hu2, ?_, ?_⟩
     ·rcases hf2 with h | ⟨a, e, hge, _⟩
      ·exact .inl h
      ·exact .inr ⟨a, e, fun h => by have := hlt _ h; omega, by omega⟩
     ·rcases ho.2 with ⟨h, h0⟩ | ⟨g, cap, cur, h, _⟩
      ·injection h with _ h2 _
       exact .inl h2
      ·injection h with h2 _ _
       exact .inr ⟨_, _, h2⟩
    rcases g5 with ⟨hb, rfl, rfl, rfl, rfl, rfl, rfl, rfl⟩ | ⟨hle, rfl, rfl, rfl, rfl, rfl, hu, hpl, hd1⟩
    ·have hans : HIn.ans n ⟨b1, ins, er, false, 0⟩ (1, ys) = ⟨b1, ins, 0, true, 13⟩ := by
      unfold HIn.ans
      rw [if_neg (by dsimp only; decide), if_neg (by dsimp only; decide), if_pos rfl, if_pos (by dsimp only; omega)]
     refine ⟨h1, _, rfl, D1, d1, IA', im + mm, ic', ins ++ ys, ?_, ?_, hIu, ?_, by have := hI'.1.1; omega⟩
     ·rw [hans]; rfl
     ·rw [hans]; exact hDk w' h1
     ·rw [hans]; exact fun h => by cases h
    ·have hans : HIn.ans n ⟨tg, ins, er, false, 0⟩ (1, ys) = ⟨!tg, ins ++ ys, 0, lastB mm ins.length n, 0⟩ := by
      unfold HIn.ans
      rw [if_neg (by dsimp only; decide), if_neg (by dsimp only; decide), if_pos rfl, if_neg (by dsimp only; omega)]
      dsimp only
      unfold lastB
      rw [hml]
     have hll : (ins ++ ys).length = ins.length + mm := by rw [List.length_append, hml]
     refine ⟨h1, _, rfl, D1, d1, IA', im + mm, ic', ins ++ ys, ?_, ?_, hIu, ?_, by have := hI'.1.1; omega⟩
     ·rw [hans]
      dsimp only
      rw [hll]
      rfl
     ·rw [hans]
      dsimp only
      rw [hll]
      refine ⟨hu, ?_, hpl⟩
      rcases hd1 with ⟨h0', e'⟩ | ⟨g', e', hg'⟩
      ·rw [e', h0']
       exact hD.2.1
      ·exact .inr ⟨_, e', fun h => by have := hlt _ h; simp at this; omega, .inr (by show b0 + 1 < g'; omega)⟩
     ·rw [hans]
      exact fun _ => rfl
   ·refine (ban_recv 2 tg false n none 0 0 DA ins.length dc ins er A mm c ys w' (hDk w' hbw).1 hD.2.2 (hdd.1.below hbw) hm8 (by omega) hn (hDlt w' hbw)).mono ?_
    rintro e0 w2 ⟨h1, ⟨hb, rfl⟩ | ⟨hle, A', c', rfl, hu, hpl, hd1⟩⟩
    ·exact ⟨h1, tg, none, 0, 0, DA, ins.length, dc, (ins.length : Int), 0, true, 13, rfl, rfl, rfl, rfl, rfl, .inl ⟨hb, rfl, rfl, rfl, rfl, rfl, rfl, rfl⟩⟩
    ·exact ⟨h1, !tg, none, 0, 0, A', ins.length + mm, c', ((ins.length + mm : Nat) : Int), 0, lastB mm ins.length n, 0, rfl, rfl, rfl, rfl, rfl, .inr ⟨hle, rfl, rfl, rfl, rfl, rfl, hu, hpl, hd1.imp (fun ⟨a, b, _⟩ => ⟨a, b⟩) fun ⟨g', e, h⟩ => ⟨g', e, by omega⟩⟩⟩
   ·obtain ⟨p1, p2, p3, p4, h5⟩ := hP
    refine ⟨p1, p2, p3, p4, h5.imp id ?_⟩
    rintro ⟨q1, q2, q3, q4, q5, q6, hu, hpl, hd1⟩
    refine ⟨q1, q2, q3, q4, q5, q6, u8_to hu ?_, hpl, hd1⟩
    rcases hd1 with ⟨h0', e'⟩ | ⟨g', e', hg'⟩
    ·rcases u8_lt hD.1 with h | h
     ·exact .inl (by omega)
     ·exact (u8_lt hu).imp id fun hl a e => hk _ (by have := h a (by rw [← e']; exact e); omega) (by have := h a (by rw [← e']; exact e); omega) (hl a e)
    ·exact (u8_lt hu).imp id fun hl a e => hk _ (by rw [e'] at e; cases e; show g' ≠ _; omega) (by rw [e'] at e; cases e; show g' ≠ _; omega) (hl a e)
  ·obtain rfl : mm = 0 := by rw [← hml]; rfl
   rcases hr with rfl | rfl | rfl | rfl
   ·exact other 2 0 false 0 (.inl (.inl rfl)) (by simp [HIn.ans]) (by omega) (fun w' _ => ban_nak true 2 8 tg false n none 0 0 DA ins.length dc _ er 0 A 0 c w' rfl)
   ·exact other 3 0 true 12 (.inl (.inr (.inl rfl))) (by simp [HIn.ans]) (by omega) (fun w' _ => ban_stall true 2 8 tg false n none 0 0 DA ins.length dc _ er 0 A 0 c w' rfl)
   ·exact other 4 ((er + 1 : Nat) : Int) (er + 1 == 3) (if er + 1 = 3 then 11 else 0) (.inl (.inr (.inr rfl))) (by simp [HIn.ans]; rfl) (by omega) (fun w' _ => ban_none true 2 8 tg false n none 0 0 DA ins.length dc _ er 0 A 0 c w' rfl her)
   ·exact other 6 0 false 0 (.inr (.inr rfl)) (by simp [HIn.ans]) (by omega) (fun w' _ => ban_again true 2 8 tg false n none 0 0 DA ins.length dc _ er 0 A 0 c w' rfl)
end
end Go.Proofs.YtiajboiobjfcoaaGreatDoor
