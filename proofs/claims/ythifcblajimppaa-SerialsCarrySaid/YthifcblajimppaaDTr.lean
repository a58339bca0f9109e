/-
  What is proved here: the law's transactions with a set of endpoints: what Do does and returns for In and Out.
  Conditions: the table's look-ups; what waits has at most 64 bytes; a packet has at most Max bytes.
-/
import Derived.Test.YthifcblajimppaaDBus
import Derived.Test.YthifcblajimppaaITck
namespace Go.Proofs.Ythifcblajimppaa
open Go.Proofs Go.RowKit
set_option maxHeartbeats 1000000 in
theorem nil_next (w : World) : Calls Try.prog 50 #[.nilIface] w fun e w' => e = .returned (.int .u8 0) ∧ w' = w := by
 go_enter Try.func50, Try.ntmps50
 go_wp2
 go_ret
 exact ⟨rfl, rfl⟩
def epBus (K : EpK) : Bus where
 σ := EpS
 B0 := K.B0
 I := EpAt K
 keep := by
  intro w w' S s h hk hs
  exact ⟨(hk _ (.inr h.own.1)).trans h.set, h.nxt, h.wait, h.inn.keep (hk _ (.inr h.own.2.1)) (fun i hi _ => hk i (.inl hi)) (fun _ _ h => h), h.out.keep (hk _ (.inr h.own.2.2.1)) (fun i hi _ _ _ => hk i (.inr hi)) (fun _ h => h), (hk _ (.inl K.lt.2.2.2)).trans h.map, h.own, fun i hi => Nat.lt_of_lt_of_le (h.lt i hi) hs, Nat.le_trans h.base hs, h.far⟩
 lt := fun h => h.lt
 base := fun h => h.base
 wv := .nilIface
 one := rfl
 nx := fun s => (0, s)
 next := by
  intro w S s h
  refine (nil_next w).mono ?_
  rintro e w' ⟨rfl, rfl⟩
  exact ⟨S, rfl, h, Mv.refl _ _⟩
 ga := ⟨K.s, 0, none⟩
 hr := EpS.hear
 room := fun _ => True
 Ok := PkOk K
 hear := fun h _ hp hd => ep_hear K h hp hd
theorem ep_speak (K : EpK) (s : EpS) (p : Pk) : (epBus K).speak true s p = s.hear p := by
 unfold Bus.speak
 have e1 : ((epBus K).nx s).1 = 0 := rfl
 rw [if_pos ⟨e1, rfl⟩]
 have e2 : (epBus K).hr ((epBus K).nx s).snd p = s.hear p := rfl
 rw [e2]
 rcases s.hear p with ⟨_ | q, s2⟩
 ·rfl
 ·exact if_pos rfl
theorem ep_ans (K : EpK) : ∀ p s q, ((epBus K).hr s p).1 = some q → CkOk q ∧ q.data.length ≤ 1024 := by
 intro p s q h
 have h : (s.hear p).1 = some q := h
 have c10 : CkOk ⟨10, 0, 0, []⟩ ∧ ([] : List Int).length ≤ 1024 := ⟨ck_shake (.inr (.inl rfl)), by simp⟩
 have c2 : CkOk ⟨2, 0, 0, []⟩ ∧ ([] : List Int).length ≤ 1024 := ⟨ck_shake (.inl rfl), by simp⟩
 unfold EpS.hear at h
 split at h
 ·cases h
 split at h
 ·split at h
  ·cases h; exact c10
  ·rename_i xs r he
   dsimp only at h
   split at h
   ·rename_i hl
    cases h
    exact ⟨ck_data s.itg xs hl, hl⟩
   ·cases h
 split at h
 ·split at h <;> cases h
 split at h
 ·split at h
  ·cases h; exact c2
  split at h
  ·cases h; exact c10
  ·cases h; exact c2
 ·cases h
def EpS.rd (s : EpS) : (Int × List Int) × EpS :=
 match s.q with
 | [] => ((2, []), { s with nxt := 0 })
 | xs :: r => ((1, xs), { s with nxt := 0, q := r, itg := !s.itg })
def EpS.wt (s : EpS) (xs : List Int) : Int × EpS :=
 if s.room = 0 then (2, { s with nxt := 0 }) else (1, { s with nxt := 0, room := s.room - 1, tk := some xs, otg := !s.otg })
theorem ep_trin (K : EpK) (s : EpS) (tg : Bool) (hq : ∀ x ∈ s.q, x.length ≤ 64) (htg : s.itg = tg) : (epBus K).trIn true s 0 1 tg false 64 = s.rd := by
 unfold Bus.trIn
 rw [ep_speak]
 have hdev : (epBus K).dev true s = true := rfl
 rw [hdev, ep_speak]
 obtain ⟨nxt, q, itg, room, tk, otg⟩ := s
 dsimp only at hq htg ⊢
 subst htg
 rcases q with _ | ⟨xs, r⟩
 ·simp [EpS.hear, EpS.rd, hsV]
  rfl
 ·have hl : xs.length ≤ 64 := hq xs (by simp)
  have hl2 : xs.length ≤ 1024 := by omega
  have hl3 : ¬ ((64 : Int) < (xs.length : Int)) := by omega
  cases itg <;> simp [EpS.hear, EpS.rd, hl2, hl3] <;> rfl
theorem ep_trout (K : EpK) (s : EpS) (tg : Bool) (xs : List Int) (htg : s.otg = tg) : (epBus K).trOut true s 0 2 tg false xs = s.wt xs := by
 unfold Bus.trOut
 rw [ep_speak]
 have hdev : (epBus K).dev true s = true := rfl
 rw [hdev, ep_speak]
 obtain ⟨nxt, q, itg, room, tk, otg⟩ := s
 dsimp only at htg ⊢
 subst htg
 by_cases hr : room = 0
 ·cases otg <;> simp [EpS.hear, EpS.wt, dataPk, hr, hsV] <;> rfl
 ·cases otg <;> simp [EpS.hear, EpS.wt, dataPk, hr, hsV] <;> rfl
theorem ck_r1' : ckRun 1 (.n 0) (.n 2) = true := by kernel_rfl
theorem ck_r9' : ckRun 9 (.n 0) (.n 1) = true := by kernel_rfl
theorem ck_t1 : CkOk ⟨1, 0, 2, []⟩ := ck_tok ck_r1' (fun _ _ _ => ⟨rfl, rfl⟩) (by omega) (by omega) (by omega)
theorem ck_t9 : CkOk ⟨9, 0, 1, []⟩ := ck_tok ck_r9' (fun _ _ _ => ⟨rfl, rfl⟩) (by omega) (by omega) (by omega)
set_option maxHeartbeats 4000000 in
theorem ep_in (K : EpK) (w : World) (S : Nat → Prop) (s : EpS) (tg : Bool) (h : EpAt K w S s) (hq : ∀ x ∈ s.q, x.length ≤ 64) (htg : s.itg = tg) :
  Calls Try.prog 27 #[.iface 29 (.pointer (some ⟨K.s, 0, none⟩)), .nilIface, .agg #[.int .u8 0, .int .u8 1, .int .u8 9, .bool tg, .bool false, .int .i64 64, .slice none 0 0]] w (DoEnd (epBus K) s.rd w S) := by
 refine do_ret (epBus K) 9 0 1 tg false 64 none 0 0 w S s s.rd h ?_ (.inl rfl) (fun _ w3 S3 dB wB sB Bx B us hdo hI3 => ?_) (fun h => absurd h (by decide))
 ·exact tck_tok t_in0 (by omega) 0 1 tg false 64 none 0 0 (by omega) (by omega) ⟨by omega, 0, .inr ⟨rfl, none, rfl, rfl⟩⟩ (by decide) (by cases tg <;> decide) (by decide) (by decide) (by decide) (fun _ h => h)
 ·have hout := in_ret (epBus K) (dev := true) (k := 0) (by omega) hdo (s := s) 0 1 tg false 64 none 0 0 hI3 (by omega) ck_t9 (fun _ => ⟨⟨rfl, ck_t9, .inr (.inl ⟨rfl, rfl⟩)⟩, trivial⟩) (ck_shake (.inl rfl))
   (fun _ _ => ⟨⟨rfl, ck_shake (.inl rfl), .inr (.inr (.inl rfl))⟩, trivial⟩) (ep_ans K)
  rw [ep_trin K s tg hq htg] at hout
  exact hout
set_option maxHeartbeats 4000000 in
theorem ep_out (K : EpK) (w : World) (S : Nat → Prop) (s : EpS) (tg : Bool) (A : Option Addr) (n c : Nat) (xs : List Int) (h : EpAt K w S s) (htg : s.otg = tg) (hd : D8 w S A n c xs) (hz : SlZ (.slice A n c) n A.isNone) (hl : xs.length ≤ K.mx) :
  Calls Try.prog 27 #[.iface 29 (.pointer (some ⟨K.s, 0, none⟩)), .nilIface, .agg #[.int .u8 0, .int .u8 2, .int .u8 1, .bool tg, .bool false, .int .i64 0, .slice A n c]] w (DoEnd (epBus K) (((s.wt xs).1, []), (s.wt xs).2) w S) := by
 have hn : n = xs.length := hd.1.1.symm
 have hm := K.hm
 refine do_ret (epBus K) 1 0 2 tg false 0 A n c w S s (((s.wt xs).1, []), (s.wt xs).2) h ?_ (.inr rfl) (fun h => absurd h (by decide)) (fun _ w3 dB wB sB B us hm3 hdo hI3 => ?_)
 ·exact tck_tok t_out0 (by omega) 0 2 tg false 0 A n c (by omega) (by omega) hz (by show (0 : Int) ≤ n ∧ (n : Int) ≤ 1024; omega) (by cases tg <;> decide) (by decide) (by decide) (by decide) (fun _ _ => rfl)
 ·have hout := out_ret (epBus K) (dev := true) (k := 0) (by omega) hdo (s := s) 0 2 tg false 0 A n c xs hI3 (hd.mv hm3) ?_ (by omega) ck_t1 (fun _ => ⟨⟨rfl, ck_t1, .inl ⟨rfl, rfl⟩⟩, trivial⟩) (ck_data tg xs (by omega)) (fun _ => ⟨⟨rfl, ck_data tg xs (by omega), .inr (.inr (.inr ⟨by unfold dataPk; cases tg <;> simp, hl⟩))⟩, trivial⟩) (ep_ans K)
  ·rw [ep_trout K s tg xs htg] at hout
   exact hout
  ·rcases Nat.eq_zero_or_pos n with h0 | h0
   ·exact .inl h0
   ·obtain ⟨⟨h1, h2, h3, h4⟩, h5⟩ := hd
    rcases h4 with ⟨_, h4, _⟩ | ⟨a, rfl, h4⟩
    ·omega
    ·have := World.block_lt_of_cell? _ _ (h4 0 h0)
     rw [show (a.add 0) = a by simp [Addr.add]] at this
     exact .inr ⟨a, rfl, this⟩
end Go.Proofs.Ythifcblajimppaa
