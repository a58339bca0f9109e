/-
  What is proved here: what the law's run returns for a stream OUT.
  Conditions: what the work's and the device's cells hold.
-/
import Derived.Test.YtiajboiobjfcoaaGreatDoorOPans
import Derived.Test.YtiajboiobjfcoaaGreatDoorORun
import Derived.Test.YtiajboiobjfcoaaGreatDoorOBus
import Derived.Test.YtiajboiobjfcoaaGreatDoorIIso
namespace Go.Proofs.YtiajboiobjfcoaaGreatDoor
open Go.Proofs Go.RowKit
def strK {B0 : Nat} (W : Wire B0) (K : GrK) (bs : List (List Int)) (s0 : W.τ × GrS) (h0 : Hst) : Nat → (W.τ × GrS) × Hst
 | 0 => (s0, h0)
 | k + 1 => ((strOut W.nx K (strK W K bs s0 h0 k).1 (strK W K bs s0 h0 k).2.tg (bs[(strK W K bs s0 h0 k).2.k]?.getD [])).2,
   (strK W K bs s0 h0 k).2.ans bs.length (strOut W.nx K (strK W K bs s0 h0 k).1 (strK W K bs s0 h0 k).2.tg (bs[(strK W K bs s0 h0 k).2.k]?.getD [])).1)
def strR {B0 : Nat} (W : Wire B0) (K : GrK) (bs : List (List Int)) (s0 : W.τ × GrS) (h0 : Hst) (k : Nat) : Int :=
 (strOut W.nx K (strK W K bs s0 h0 k).1 (strK W K bs s0 h0 k).2.tg (bs[(strK W K bs s0 h0 k).2.k]?.getD [])).1
theorem strOut_at {τ : Type} (nx : τ → Int × τ) (K : GrK) (s : τ × GrS) (tg : Bool) (xs : List Int) : (strOut nx K s tg xs).2.2.at_ ≤ s.2.at_ + 1 ∧ (strOut nx K s tg xs).2.2.nx = s.2.nx ∧ (strOut nx K s tg xs).2.2.wt = false ∨ (strOut nx K s tg xs).2.2 = s.2 := by
 unfold strOut
 split
 ·split
  ·left
   dsimp only
   rcases takeB_cases K { s.2 with wt := false, tk := false } (if tg = true then 11 else 3) xs with ⟨_, h⟩ | ⟨_, h | h | h⟩ <;> rw [h] <;> simp
  ·left; simp
 ·exact .inr rfl
theorem strOut_res {τ : Type} (nx : τ → Int × τ) (K : GrK) (s : τ × GrS) (tg : Bool) (xs : List Int) : (strOut nx K s tg xs).1 = 1 ∨ (strOut nx K s tg xs).1 = 2 ∨ (strOut nx K s tg xs).1 = 3 ∨ (strOut nx K s tg xs).1 = 4 := by
 unfold strOut
 split
 ·split
  ·dsimp only
   split
   ·rcases takeB_cases K { s.2 with wt := false, tk := false } (if tg = true then 11 else 3) xs with ⟨_, h⟩ | ⟨_, h | h | h⟩ <;> rw [h] <;> simp [hsV]
   ·simp
  ·simp
 ·simp
section
variable {B0 : Nat} (W : Wire B0) (K : GrK) (bs : List (List Int)) (s0 : W.τ × GrS) (h0 : Hst) (T0 : List Int) (m0 : Nat)
theorem strK_facts (h : Syn bs T0 m0 h0 s0.2) (m : Nat) (hm : ∀ k, k < m → (strK W K bs s0 h0 k).2.over = false) (k : Nat) (hk : k ≤ m) :
  Syn bs T0 m0 (strK W K bs s0 h0 k).2 (strK W K bs s0 h0 k).1.2 ∧ (strK W K bs s0 h0 k).1.2.at_ ≤ s0.2.at_ + k ∧ (strK W K bs s0 h0 k).1.2.nx = s0.2.nx := by
 induction k with
 | zero => exact ⟨h, by simp [strK], rfl⟩
 | succ k ih =>
  obtain ⟨h1, h2, h3⟩ := ih (by omega)
  refine ⟨syn_step W.nx K bs T0 m0 _ _ h1 (hm k (by omega)), ?_⟩
  have := strOut_at W.nx K (strK W K bs s0 h0 k).1 (strK W K bs s0 h0 k).2.tg (bs[(strK W K bs s0 h0 k).2.k]?.getD [])
  show (strOut W.nx K _ _ _).2.2.at_ ≤ _ ∧ (strOut W.nx K _ _ _).2.2.nx = _
  rcases this with ⟨a, b, _⟩ | a
  ·omega
  ·rw [a]; omega
end
theorem take_flat_le (bs : List (List Int)) (k : Nat) : ((bs.take k).flatten).length ≤ bs.flatten.length := by
 have h := congrArg List.flatten (List.take_append_drop k bs)
 rw [List.flatten_append] at h
 rw [← h, List.length_append]
 omega
theorem sumTo_flat (bs : List (List Int)) (k : Nat) : sumTo bs k = ((bs.take k).flatten).length := by
 unfold sumTo
 rw [List.length_flatten]
 rfl
def OWk (kind per : Int) (ptg z : Bool) (bs : List (List Int)) (b0 : Nat) (h : Hst) (w : World) (S : Nat → Prop) (V : Array Value) : Prop :=
 ∃ LA lc, V = strV 5 2 false kind 8 per 1 0 1 ptg false h.tg z 0 LA (bs.length - h.k) lc none 0 0 (sumTo bs h.k : Int) (h.er : Int) h.over h.e none 0 0 (sumTo bs h.k : Int) ∧ PkOn (fun i => i < b0 ∧ i < w.heap.size ∧ ¬ S i) w LA (bs.length - h.k) lc (bs.drop h.k) ∧ Pl LA (bs.length - h.k)
theorem OWk.mv {kind per : Int} {ptg z : Bool} {bs : List (List Int)} {b0 : Nat} {h : Hst} {w w' : World} {S S' : Nat → Prop} {V : Array Value} (hw : OWk kind per ptg z bs b0 h w S V) (hm : Mv S w S' w') : OWk kind per ptg z bs b0 h w' S' V := by
 obtain ⟨LA, lc, e, hp, hl⟩ := hw
 exact ⟨LA, lc, e, (hp.on fun i hi => hm.block i hi.2.1 hi.2.2).wide fun i hi => ⟨hi.1, Nat.lt_of_lt_of_le hi.2.1 hm.size, hm.out hi.2.1 hi.2.2⟩, hl⟩
theorem OWk.bx {kind per : Int} {ptg z : Bool} {bs : List (List Int)} {b0 g : Nat} {h : Hst} {w w' : World} {S : Nat → Prop} {V : Array Value} (hw : OWk kind per ptg z bs b0 h w S V) (hW : Wrote g w w') (h0 : b0 ≤ g) : OWk kind per ptg z bs b0 h w' S V := by
 obtain ⟨LA, lc, e, hp, hl⟩ := hw
 exact ⟨LA, lc, e, (hp.on fun i hi => hW.other i (by omega)).wide fun i hi => ⟨hi.1, by rw [hW.size]; exact hi.2.1, hi.2.2⟩, hl⟩
theorem PkOn.rest {w : World} {X : Nat → Prop} {a : Addr} {n c : Nat} {A' : Option Addr} {c' : Nat} {b : List Int} {bs : List (List Int)} (h : PkOn X w (some a) (n + 1) c (b :: bs)) (hr : Rest1 a (n + 1) c A' c') : PkOn X w A' n c' bs := by
 obtain ⟨vs, h1, h2, h3, h4⟩ := h
 obtain ⟨v, vs', rfl⟩ : ∃ v vs', vs = v :: vs' := by
  cases vs with
  | nil => have := h1.1; simp at this
  | cons v vs' => exact ⟨v, vs', rfl⟩
 have hb : B8s w vs' bs := ⟨by have := h2.1; simpa using this, fun j v b hj hb => h2.2 (j + 1) v b (by simpa using hj) (by simpa using hb)⟩
 rcases hr with ⟨e1, e2, rfl, rfl⟩ | ⟨rfl, rfl⟩
 ·obtain rfl : n = 0 := by omega
  have hv0 : vs' = [] := List.eq_nil_of_length_eq_zero (by have := h1.1; simpa using this)
  subst hv0
  exact ⟨[], ⟨rfl, by omega, .inr ⟨a, rfl, fun j u hj => by simp at hj⟩⟩, hb, .inl rfl, fun j A n c hj => by simp at hj⟩
 ·refine ⟨vs', sls_rest h1, hb, ?_, fun j A n c hj => h4 (j + 1) A n c (by simpa using hj)⟩
  rcases h3 with h0 | ⟨a', e, hx⟩
  ·omega
  ·cases e
   exact .inr ⟨_, rfl, by rw [add_block']; exact hx⟩
section
variable (K : GrK) (hiso : K.iso = false) (hin : K.inn = false) (G B0 B1 : Nat) (hG : B0 ≤ B1) (hGB : G < B1) (W : Wire B0) (hWo : ∀ i, W.own i → B0 ≤ i ∧ i < B1 ∧ i ≠ G)
theorem speak_grO (p : Pk) (dev : Bool) (t : W.τ) (g : GrS) : ((outBus K hiso hin G B0 B1 hG hGB W hWo).speak dev (t, g) p).2.2 = g ∨ ((outBus K hiso hin G B0 B1 hG hGB W hWo).speak dev (t, g) p).2.2 = (g.hearOut K p).2 := by
 unfold Bus.speak
 split
 ·have e : (outBus K hiso hin G B0 B1 hG hGB W hWo).hr ((outBus K hiso hin G B0 B1 hG hGB W hWo).nx (t, g)).2 p = ((g.hearOut K p).1, ((W.nx t).2, (g.hearOut K p).2)) := rfl
  rw [e]
  cases h : (g.hearOut K p).1 with
  | none => exact .inr rfl
  | some q =>
   refine .inr ?_
   dsimp only
   split <;> rfl
 ·exact .inl rfl
theorem out_room (p : Pk) (hp : p.pid = 1) (dev : Bool) (s : W.τ × GrS) (h : s.2.room) : GrS.room ((outBus K hiso hin G B0 B1 hG hGB W hWo).speak dev s p).2.2 := by
 obtain ⟨t, g⟩ := s
 rcases speak_grO K hiso hin G B0 B1 hG hGB W hWo p dev t g with e | e
 ·rw [e]; exact h
 ·rw [e]
  unfold GrS.hearOut
  rw [if_pos hp]
  exact h
set_option maxHeartbeats 2000000 in
theorem str_runs (he : K.endp = 2) (kind per : Int) (hkind : kind = 2 ∨ kind = 3) (ptg z : Bool) (bs : List (List Int)) (hbl : ∀ b ∈ bs, b.length ≤ 8) (hlen : bs.length ≤ 1000) (m b0 : Nat) (hmn : m ≤ 1000) (s0 : W.τ × GrS) (h0 : Hst) (T0 : List Int) (m0 : Nat)
  (hs : Syn bs T0 m0 h0 s0.2) (hm : ∀ k, k < m → (strK W K bs s0 h0 k).2.over = false) (hT : T0.length ≤ 1000) (hm0 : m0 ≤ 100000) (ha : s0.2.at_ ≤ 100000) (hnx : s0.2.nx ≤ 1000) :
  Runs (outBus K hiso hin G B0 B1 hG hGB W hWo) m b0 (fun k => (strK W K bs s0 h0 k).1) (strR W K bs s0 h0) (fun _ => []) (fun k => OWk kind per ptg z bs b0 (strK W K bs s0 h0 k).2) where
 sz := by
  rintro k wr S V ⟨LA, lc, rfl, _⟩
  exact ⟨rfl, rfl⟩
 mv := fun h hm => h.mv hm
 bx := fun h hW h0 _ => h.bx hW h0
 next := by
  rintro k wr S V hk ⟨LA, lc, rfl, ⟨vs, hA, hb, hf1, hf2⟩, _⟩ hI
  obtain ⟨hsy, hat, hnx'⟩ := strK_facts W K bs s0 h0 T0 m0 hs m hm k (by omega)
  have hov := hm k hk
  obtain ⟨hkl, he0, her⟩ := hsy.run hov
  obtain ⟨b, hbk⟩ : ∃ b, bs[(strK W K bs s0 h0 k).2.k]? = some b := ⟨_, List.getElem?_eq_getElem hkl⟩
  have hb8 := hbl b (List.mem_of_getElem? hbk)
  have hdk : (bs.drop (strK W K bs s0 h0 k).2.k)[0]? = some b := by rw [List.getElem?_drop]; simpa using hbk
  have hroom : (strK W K bs s0 h0 k).1.2.room := by
   have hfl := take_flat_le bs
   have h8 : bs.flatten.length ≤ 8 * 1000 := by
    have := sumTo_le bs hbl bs.length
    rw [sumTo_flat, List.take_of_length_le (Nat.le_refl _)] at this
    omega
   rcases hsy.two with ⟨_, e2, e3⟩ | ⟨_, _, e2, e3, _⟩
   ·have := hfl (strK W K bs s0 h0 k).2.k
    unfold GrS.room
    rw [e2, e3, List.length_append]
    omega
   ·have := hfl ((strK W K bs s0 h0 k).2.k + 1)
    unfold GrS.room
    rw [e2, e3, List.length_append]
    omega
  unfold strV
  rw [hov]
  refine (pipe_nextB 5 2 false kind 8 per 1 0 1 ptg false _ _ _ _ _ _ _ _ _ _ _ _ _ _ _ _ _ _ _ _ _ _ _ _ _ _ _ _ _ _ _ _ _ _ _ 2 1 (strK W K bs s0 h0 k).2.tg false 0 b wr (by rcases hkind with rfl | rfl <;> rfl) (by rcases hkind with rfl | rfl <;> rfl) (fun w' hbw => ?_)).mono ?_
  ·refine (bnx_out 2 8 (strK W K bs s0 h0 k).2.tg z LA (bs.length - (strK W K bs s0 h0 k).2.k) lc vs _ _ _ _ w' rfl (by omega) (hA.below hbw) (hb.below hbw)).mono ?_
   rintro e w2 ⟨h1, A, n, c, rfl, hN, hP⟩
   rw [hdk] at hN
   exact ⟨h1, A, n, c, rfl, hN, hP⟩
  ·rintro e w1 ⟨hb1, A, mm, c, rfl, hN, hPl⟩
   have hm8 : mm ≤ 8 := by rw [← hN.1.1]; exact hb8
   refine ⟨hb1, _, rfl, rfl, rfl, fun w2 hb2 => ?_⟩
   have hI2 := Bus.below hI (hb1.trans (hb2.mono hb1.size))
   have hd2 : D8 w2 S A mm c b := (hN.d8 (fun i hi => (outBus K hiso hin G B0 B1 hG hGB W hWo).lt hI i hi)).below hb2
   have ho := str_out K hiso hin G B0 B1 hG hGB W hWo he (strK W K bs s0 h0 k).1 (strK W K bs s0 h0 k).2.tg b
   have hr1 : strR W K bs s0 h0 k = (strOut W.nx K (strK W K bs s0 h0 k).1 (strK W K bs s0 h0 k).2.tg b).1 := by
    unfold strR
    rw [hbk]
    rfl
   have hr2 : (strK W K bs s0 h0 (k + 1)).1 = (strOut W.nx K (strK W K bs s0 h0 k).1 (strK W K bs s0 h0 k).2.tg b).2 := by
    show (strOut W.nx K (strK W K bs s0 h0 k).1 (strK W K bs s0 h0 k).2.tg (bs[(strK W K bs s0 h0 k).2.k]?.getD [])).2 = _
    rw [hbk]
    rfl
   refine do_ret (outBus K hiso hin G B0 B1 hG hGB W hWo) 1 5 2 (strK W K bs s0 h0 k).2.tg false 0 A mm c w2 S (strK W K bs s0 h0 k).1 ((strR W K bs s0 h0 k, []), (strK W K bs s0 h0 (k + 1)).1) hI2 ?_ (.inr rfl) (fun h => absurd h (by decide)) (fun _ w3 dB wB sB B us hm3 hdo hI3 => ?_)
   ·exact tck_tok t_out0 (by omega) 5 2 _ false 0 A mm c (by omega) (by omega) (slz_of hPl (by omega)) (by show (0 : Int) ≤ mm ∧ (mm : Int) ≤ 1024; omega) (by cases (strK W K bs s0 h0 k).2.tg <;> decide) (by decide) (by decide) (by decide) (fun _ _ => rfl)
   ·have hout := out_ret (outBus K hiso hin G B0 B1 hG hGB W hWo) (dev := true) (k := 0) (by omega) hdo (s := (strK W K bs s0 h0 k).1) 5 2 (strK W K bs s0 h0 k).2.tg false 0 A mm c b hI3 (hd2.mv hm3) ?_ (by omega) (ck_token (.inl rfl)) ?_ (ck_data _ b (by omega)) ?_ (out_ans K hiso hin G B0 B1 hG hGB W hWo)
    ·rw [ho] at hout
     rw [hr1, hr2]
     exact hout
    ·rcases Nat.eq_zero_or_pos mm with h0 | h0
     ·exact .inl h0
     ·rcases hN.2 with h | ⟨a, rfl, _⟩
      ·omega
      ·exact .inr ⟨a, rfl, hd2.lt h0⟩
    ·exact fun _ => ⟨⟨.inl rfl, by simp⟩, hroom⟩
    ·exact fun _ => ⟨⟨by unfold dataPk; cases (strK W K bs s0 h0 k).2.tg <;> simp [OutPk], by show b.length ≤ 1024; omega⟩, out_room K hiso hin G B0 B1 hG hGB W hWo ⟨1, 5, 2, []⟩ rfl true (strK W K bs s0 h0 k).1 hroom⟩
 ans := by
  rintro k wr S V A mm c hk ⟨LA, lc, rfl, hpk, hplL⟩ hI hd hb0
  obtain ⟨hsy, hat, hnx'⟩ := strK_facts W K bs s0 h0 T0 m0 hs m hm k (by omega)
  have hov := hm k hk
  obtain ⟨hkl, he0, her⟩ := hsy.run hov
  obtain ⟨b, hbk⟩ : ∃ b, bs[(strK W K bs s0 h0 k).2.k]? = some b := ⟨_, List.getElem?_eq_getElem hkl⟩
  have hb8 := hbl b (List.mem_of_getElem? hbk)
  have hdk : bs.drop (strK W K bs s0 h0 k).2.k = b :: bs.drop ((strK W K bs s0 h0 k).2.k + 1) := by
   rw [← (List.getElem?_eq_some_iff.1 hbk).2]
   exact List.drop_eq_getElem_cons hkl
  have hm0' : mm = 0 := by have := hd.1.1; simpa using this.symm
  subst hm0'
  have hk2 : (strK W K bs s0 h0 (k + 1)).2 = (strK W K bs s0 h0 k).2.ans bs.length (strR W K bs s0 h0 k) := rfl
  have hres : strR W K bs s0 h0 k = 1 ∨ strR W K bs s0 h0 k = 2 ∨ strR W K bs s0 h0 k = 3 ∨ strR W K bs s0 h0 k = 4 := strOut_res W.nx K (strK W K bs s0 h0 k).1 (strK W K bs s0 h0 k).2.tg (bs[(strK W K bs s0 h0 k).2.k]?.getD [])
  rw [hk2]
  obtain ⟨vs, hA, hb, hf1, hf2⟩ := id hpk
  have hsl := sumTo_le bs hbl (strK W K bs s0 h0 k).2.k
  have hss := sumTo_succ bs (strK W K bs s0 h0 k).2.k
  rw [hbk] at hss
  generalize strR W K bs s0 h0 k = r at hres ⊢
  generalize (strK W K bs s0 h0 k).2 = h at *
  obtain ⟨tg, hk', er, over, e⟩ := h
  dsimp only at *
  subst hov
  subst he0
  have hnxt : ∀ w', Below wr.heap.size wr w' → Calls Tryz.prog 37 #[.agg #[.bool false, .int .u8 2, .int .i64 8, .bool tg, .slice none 0 0, .bool z, .int .i64 0, .slice LA (bs.length - hk') lc, .slice none 0 0, .int .i64 (sumTo bs hk' : Int), .int .i64 (er : Int), .bool false, .int .i64 0]] w' fun e w2 => Below w'.heap.size w' w2 ∧ ∃ A n c, e = .returned (.tuple #[.agg #[.int .u8 0, .int .u8 2, .int .u8 1, .bool tg, .bool false, .int .i64 0, .slice A n c], .bool true]) ∧ New8 w' w2 A n c b ∧ Pl A n := by
   intro w' hbw
   refine (bnx_out 2 8 tg z LA (bs.length - hk') lc vs _ _ _ _ w' rfl (by omega) (hA.below hbw) (hb.below hbw)).mono ?_
   rintro e w2 ⟨h1, A, n, c, rfl, hN, hP⟩
   rw [hdk] at hN
   exact ⟨h1, A, n, c, rfl, hN, hP⟩
  have hpk2 : ∀ w', Below wr.heap.size wr w' → PkOn (fun i => i < b0 ∧ i < w'.heap.size ∧ ¬ S i) w' LA (bs.length - hk') lc (bs.drop hk') := fun w' hbel =>
   (hpk.on fun i hi => hbel.block i hi.2.1).wide fun i hi => ⟨hi.1, Nat.lt_of_lt_of_le hi.2.1 hbel.size, hi.2.2⟩
  have hk0 : (kind == 0) = false := by rcases hkind with rfl | rfl <;> rfl
  have hk1 : (kind == 1) = false := by rcases hkind with rfl | rfl <;> rfl
  unfold strV
  have other : ∀ (res : Int) (er' : Int) (ov' : Bool) (e' : Int), (res = 2 ∨ res = 3 ∨ res = 4) → Hst.ans bs.length ⟨tg, hk', er, false, 0⟩ res = ⟨tg, hk', er'.toNat, ov', e'⟩ → 0 ≤ er' →
    (∀ w', Below wr.heap.size wr w' → Calls Tryz.prog 40 #[.agg (trV false 2 8 tg z 0 (.slice LA (bs.length - hk') lc) (.slice none 0 0) (sumTo bs hk' : Int) (er : Int) false 0), .agg #[.int .u8 res, .slice A 0 c]] w' fun e0 w2 => Below w'.heap.size w' w2 ∧ e0 = .returned (.agg (trV false 2 8 tg z 0 (.slice LA (bs.length - hk') lc) (.slice none 0 0) (sumTo bs hk' : Int) er' ov' e'))) →
    Calls Tryz.prog 19 #[.agg (strV 5 2 false kind 8 per 1 0 1 ptg false tg z 0 LA (bs.length - hk') lc none 0 0 (sumTo bs hk' : Int) (er : Int) false 0 none 0 0 (sumTo bs hk' : Int)), .agg #[.int .u8 res, .slice A 0 c]] wr
     fun e w' => Below wr.heap.size wr w' ∧ ∃ V', e = .returned (.agg V') ∧ OWk kind per ptg z bs b0 (Hst.ans bs.length ⟨tg, hk', er, false, 0⟩ res) w' S V' := by
   intro res er' ov' e' hr hans her' hba
   refine (pansB_no 5 2 false kind 8 per 1 0 1 ptg false tg z 0 LA (bs.length - hk') lc none 0 0 (sumTo bs hk' : Int) (er : Int) false 0 none 0 0 (sumTo bs hk' : Int) 1 res tg 0 b A 0 c wr
    (fun _ b1 L1 m1 c1 D1 n1 d1 a1 r1 o1 e1 => b1 = tg ∧ L1 = LA ∧ m1 = bs.length - hk' ∧ c1 = lc ∧ D1 = none ∧ n1 = 0 ∧ d1 = 0 ∧ a1 = (sumTo bs hk' : Int) ∧ r1 = er' ∧ o1 = ov' ∧ e1 = e') hk0 hk1 hr hnxt ?_ (fun _ _ _ _ _ _ _ _ _ _ _ _ _ _ h => h)).mono ?_
   ·intro w' hbw
    refine (hba w' hbw).mono ?_
    rintro e0 w2 ⟨h1, rfl⟩
    exact ⟨h1, _, _, _, _, _, _, _, _, _, _, _, rfl, rfl, rfl, rfl, rfl, rfl, rfl, rfl, rfl, rfl, rfl, rfl⟩
   ·rintro e0 w' ⟨h1, b1, L1, m1, c1, D1, n1, d1, a1, r1, o1, e1, rfl, g1, g2, g3, g4, g5, g6, g7, g8, g9, g10, g11⟩
    refine ⟨h1, _, rfl, LA, lc, ?_, ?_, by rw [hans]; exact hplL⟩
    ·rw [hans]
     dsimp only
     rw [Int.toNat_of_nonneg her', g1, g2, g3, g4, g5, g6, g7, g8, g9, g10, g11]
    ·rw [hans]
     exact hpk2 w' h1
  rcases hres with rfl | rfl | rfl | rfl
  ·obtain ⟨a, rfl⟩ : ∃ a, LA = some a := by
    rcases hA.2.2 with ⟨_, h0, _⟩ | ⟨a, h, _⟩
    ·omega
    ·exact ⟨a, h⟩
   obtain ⟨m', hm'⟩ : ∃ m', bs.length - hk' = m' + 1 := ⟨bs.length - hk' - 1, by omega⟩
   have hv0 : 0 < vs.length := by rw [hA.1]; omega
   obtain ⟨v, hv⟩ : ∃ v, vs[0]? = some v := ⟨_, List.getElem?_eq_getElem hv0⟩
   obtain ⟨A1, n1, c1, rfl, hu1, hn1⟩ := hb.2 0 v b hv (by rw [hdk]; rfl)
   have hca : wr.cell? a = some (.slice A1 n1 c1) := by
    rcases hA.2.2 with ⟨h, _⟩ | ⟨a', h, h5⟩
    ·cases h
    ·cases h
     have := h5 0 _ hv
     rwa [show a.add 0 = a by simp [Addr.add]] at this
   obtain rfl : b.length = n1 := hu1.1
   refine (pansB_out 5 2 false kind 8 per 1 0 1 ptg false tg z 0 (some a) (bs.length - hk') lc none 0 0 (sumTo bs hk' : Int) (er : Int) false 0 none 0 0 (sumTo bs hk' : Int) tg 0 b A 0 c wr
    (fun _ b1 L1 m1 c1' D1 n1 d1 a1 r1 o1 e1 => b1 = (!tg) ∧ Rest1 a (bs.length - hk') lc L1 c1' ∧ m1 = bs.length - hk' - 1 ∧ D1 = none ∧ n1 = 0 ∧ d1 = 0 ∧ a1 = (sumTo bs hk' : Int) + b.length ∧ r1 = 0 ∧ o1 = (bs.length - hk' == 1) ∧ e1 = (if bs.length - hk' = 1 then 0 else 0)) hk0 hk1 ⟨by omega, by omega⟩ (by omega) hnxt ?_ (fun _ _ _ _ _ _ _ _ _ _ _ _ _ _ h => h)).mono ?_
   ·intro w' hbw
    refine (ban_done 2 8 tg z a (bs.length - hk') lc (sumTo bs hk' : Int) er 0 A1 b.length c1 A 0 c w' rfl (by omega) hA.2.1 ((hbw.cell (World.block_lt_of_cell? _ _ hca)).trans hca) ⟨by omega, by omega⟩ (by omega)).mono ?_
    rintro e0 w2 ⟨h1, A', c', rfl, hr⟩
    exact ⟨h1, _, _, _, _, _, _, _, _, _, _, _, rfl, rfl, hr, rfl, rfl, rfl, rfl, rfl, rfl, rfl, rfl⟩
   ·rintro e0 w' ⟨h1, b1, L1, m1, c1', D1, n1, d1, a1, r1, o1, e1, rfl, g1, g2, g3, g4, g5, g6, g7, g8, g9, g10⟩
    have hans : Hst.ans bs.length ⟨tg, hk', er, false, 0⟩ 1 = ⟨!tg, hk' + 1, 0, bs.length - hk' == 1, 0⟩ := by
     unfold Hst.ans
     simp
     rw [Bool.eq_iff_iff]
     simp
     omega
    refine ⟨h1, _, rfl, L1, c1', ?_, ?_, ?_⟩
    ·rw [hans]
     dsimp only
     rw [g1, g3, g4, g5, g6, g7, g8, g9, g10, hss, Nat.sub_sub]
     simp
    ·rw [hans]
     dsimp only
     have hp := hpk2 w' h1
     rw [hdk, hm'] at hp
     rw [hm'] at g2
     rw [← Nat.sub_sub, hm']
     exact hp.rest g2
    ·rw [hans]
     dsimp only
     rcases hplL with h | ⟨g', o', e⟩
     ·omega
     ·cases e
      rcases g2 with ⟨h, _, _⟩ | ⟨e, _⟩
      ·exact .inl (by omega)
      ·exact .inr ⟨g', o' + 1, by rw [e]; rfl⟩
  ·exact other 2 0 false 0 (.inl rfl) (by simp [Hst.ans]) (by omega) (fun w' _ => ban_nak false 2 8 tg z 0 LA (bs.length - hk') lc none 0 0 _ er 0 A 0 c w' rfl)
  ·exact other 3 0 true 12 (.inr (.inl rfl)) (by simp [Hst.ans]) (by omega) (fun w' _ => ban_stall false 2 8 tg z 0 LA (bs.length - hk') lc none 0 0 _ er 0 A 0 c w' rfl)
  ·exact other 4 ((er + 1 : Nat) : Int) (er + 1 == 3) (if er + 1 = 3 then 11 else 0) (.inr (.inr rfl)) (by simp [Hst.ans]; rfl) (by omega) (fun w' _ => ban_none false 2 8 tg z 0 LA (bs.length - hk') lc none 0 0 _ er 0 A 0 c w' rfl her)
end
end Go.Proofs.YtiajboiobjfcoaaGreatDoor
