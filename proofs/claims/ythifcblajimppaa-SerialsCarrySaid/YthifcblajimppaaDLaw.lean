/-
  What is proved here: plugboardlaw41.SerialsCarry returns true for every deeds.
  Conditions: what the argument's cells hold.
-/
import Derived.Test.YthifcblajimppaaDActs
import Derived.BigQuiet
namespace Go.Proofs.Ythifcblajimppaa
open Go.Proofs Go.RowKit
attribute [local go_sem] lt2 lt3 lt4 lt5
theorem so_append (a b : List Int) : strOfNums (a ++ b) = strOfNums a ++ strOfNums b := by
 unfold strOfNums
 apply ByteArray.ext
 simp
theorem so_take (a : List Int) (n : Nat) : (strOfNums a).extract 0 n = strOfNums (a.take n) := by
 unfold strOfNums
 apply ByteArray.ext
 simp
theorem u8_drop {w : World} {b o n c m : Nat} {xs : List Int} (h : U8 w (some ⟨b, o, none⟩) n c xs) (hm : m ≤ n) : U8 w (some ⟨b, o + m, none⟩) (n - m) (c - m) (xs.drop m) := by
 obtain ⟨h1, h2, h3, ⟨h4, _⟩ | ⟨a, e, h4⟩⟩ := h
 ·cases h4
 cases e
 refine ⟨by rw [List.length_drop, h1], fun x hx => h2 x (List.mem_of_mem_drop hx), by omega, .inr ⟨_, rfl, fun j hj => ?_⟩⟩
 have := h4 (m + j) (by omega)
 rw [show (⟨b, o + m, none⟩ : Addr).add j = (⟨b, o, none⟩ : Addr).add (m + j) by unfold Addr.add; split <;> split <;> simp_all <;> omega, this, List.getElem?_drop]
def lenOf : Value → Nat
 | .slice _ n _ => n
 | _ => 0
def LwAt (L : Nat → Prop) (d P : Nat) (N : Value) (mx m : Nat) (w0 : World) (s7 s8 s9 s10 s11 : Value) (w : World) : Prop :=
 ∃ s : Ls, s7 = .string (strOfNums s.sent) ∧ s8 = .string (strOfNums s.got) ∧ s9 = .string (strOfNums s.out) ∧ s10 = .string (strOfNums s.taken) ∧ s11 = .bool s.short ∧ LInv mx m s ∧ DkAt L d P N mx 1 s.g w ∧ Kp L w0 w
set_option maxHeartbeats 100000000 in
set_option maxRecDepth 100000 in
theorem law_walk (hlives : ∀ w, Calls Try.prog 4 #[] w fun e w' => e = .returned (.bool true) ∧ Below w.heap.size w w') (mk : Int) (hmk : 0 ≤ mk ∧ mk ≤ 255) (A : Option Addr) (n c : Nat) (w : World) (hA : Acts w.heap.size w A n c) :
  Calls Try.prog 3 #[.int .u8 mk, .slice A n c] w fun e w' => e = .returned (.bool true) ∧ Below w.heap.size w w' := by
 have HL := Lib.hid hlives
 have HA := Lib.hid hA
 clear hlives hA
 obtain ⟨mx, hmx, hmx8⟩ : ∃ mx : Nat, wrap64 (8 * 2 ^ (mk % 4).toNat) = (mx : Int) ∧ 8 ≤ mx ∧ mx ≤ 64 := by
  obtain h | h | h | h : mk % 4 = 0 ∨ mk % 4 = 1 ∨ mk % 4 = 2 ∨ mk % 4 = 3 := by omega
  ·rw [h]; exact ⟨8, by (first | rfl | kernel_rfl | (simp [wrap64])), by decide, by decide⟩
  ·rw [h]; exact ⟨16, by (first | rfl | kernel_rfl | (simp [wrap64])), by decide, by decide⟩
  ·rw [h]; exact ⟨32, by (first | rfl | kernel_rfl | (simp [wrap64])), by decide, by decide⟩
  ·rw [h]; exact ⟨64, by (first | rfl | kernel_rfl | (simp [wrap64])), by decide, by decide⟩
 go_enter Try.func3, Try.ntmps3
 by_cases hn : 40 < n
 ·have q1 : (40 : Int) < (n : Int) := by omega
  go_wp2_with fail
  refine (HL.out w).mono ?_
  rintro e w1 ⟨rfl, hb⟩
  go_wp2_with fail
  go_ret
  exact ⟨rfl, hb⟩
 have q1 : ¬ (40 : Int) < (n : Int) := by omega
 go_wp2_with fail
 refine (made_ret mx w (by omega)).mono ?_
 rintro e w1 ⟨d, P, sS, I, O, N, m, rfl, hM, hb1⟩
 have hD1 := hM.at_ (by omega)
 have hs1 := hb1.size
 have HB1 := Lib.hid hb1
 clear hM hb1
 have hK0 : Kp (fun i => i < w.heap.size) w w1 := ⟨HB1.out.os, HB1.out.tape, HB1.out.output, HB1.out.size, fun i _ hi => HB1.out.block i hi⟩
 obtain ⟨L, hL⟩ : ∃ L : Nat → Prop, (fun i => i < w.heap.size) = L := ⟨_, rfl⟩
 have hLi : ∀ i, L i ↔ i < w.heap.size := fun i => by rw [← hL]
 rw [hL] at hD1 hK0
 have HLI := Lib.hid hLi
 have HK0 := Lib.hid hK0
 have hro := ready_op true g0 w1 hD1
 rw [if_pos rfl, if_pos rfl] at hro
 clear hL hLi hD1 hK0
 go_wp2_with fail
 refine hro.mono ?_
 rintro e w2 ⟨rfl, hD2, hK2⟩
 obtain ⟨sd, hd2⟩ := hD2.desk
 have hX := hd2
 unfold dkC at hX
 have x0 := cell_of hX 0
 have hI0 := g0_inv mx hmx8
 have htk := tick_ret L d P ⟨N, 0, none⟩ mx g0 w2 hI0.ok hD2
 have HK2 := Lib.hid (HK0.out.trans hK2)
 clear hro hX hd2 hD2 hK2
 go_wp2_with fail
 refine htk.mono ?_
 rintro e w3 ⟨rfl, hD3, hK3⟩
 have hst : LwAt L d P (.pointer (some ⟨N, 0, none⟩)) mx 0 w (.string ⟨#[]⟩) (.string ⟨#[]⟩) (.string ⟨#[]⟩) (.string ⟨#[]⟩) (.bool true) w3 := by
  have h0 : LInv mx 0 ⟨g0, [], [], [], [], true⟩ := ⟨hI0, rfl, rfl, .inl rfl, by simp, by simp⟩
  exact ⟨⟨g0.tick mx, [], [], [], [], true⟩, rfl, rfl, rfl, rfl, rfl, h0.tick, hD3, HK2.out.trans hK3⟩
 have HST := Lib.hid hst
 clear htk hI0 hD3 hK3 hst x0
 go_upto_block 0 with fail
 go_cut [7, 8, 9, 10, 11] from 7 to 226 (fun s7 s8 s9 s10 s11 wx => LwAt L d P (.pointer (some ⟨N, 0, none⟩)) mx 4000 w s7 s8 s9 s10 s11 wx)
 case first =>
  go_wp2_with fail
  go_loopw [7, 8, 9, 10, 11, 12] (fun s7 s8 s9 s10 s11 i wr => ∃ k : Nat, i = .int .i64 k ∧ k ≤ n ∧ LwAt L d P (.pointer (some ⟨N, 0, none⟩)) mx (100 * k) w s7 s8 s9 s10 s11 wr) (fun _ _ _ _ _ i _ => n - (intOf i).toNat)
  case atStart => exact ⟨0, rfl, by omega, HST.out⟩
  case round =>
   obtain ⟨k, rfl, hk, s, rfl, rfl, rfl, rfl, rfl, hin, hD, hK⟩ := hrel
   have HIN := Lib.hid hin
   have HD := Lib.hid hD
   have HK := Lib.hid hK
   clear hin hD hK
   by_cases hkn : k = n
   ·subst hkn
    go_wp2_with fail
    go_meet
    exact ⟨s, rfl, rfl, rfl, rfl, rfl, HIN.out.mono (by omega), HD.out, HK.out⟩
   have q2 : (k : Int) < (n : Int) := by omega
   obtain ⟨hnc, hnb, h0 | ⟨a, o, rfl, hab, hac⟩⟩ := HA.out
   ·omega
   obtain ⟨v, hv0, hv1, c0, c1, Av, nv, cv, c2, hu, hnv, hpl⟩ := hac k (by omega)
   have hblk := HK.out.block a hab ((HLI.out a).2 hab)
   have c0 := (World.cell?_of_block (a := ⟨a, o + k * 3, none⟩) hblk).trans c0
   have c1 := (World.cell?_of_block (a := ⟨a, o + k * 3 + 1, none⟩) hblk).trans c1
   have c2 := (World.cell?_of_block (a := ⟨a, o + k * 3 + 2, none⟩) hblk).trans c2
   obtain ⟨mv, hmv⟩ : ∃ mv, min nv 100 = mv := ⟨_, rfl⟩
   have q3 : min (nv : Int) 100 = (mv : Int) := by omega
   have q4 : (mv : Int) ≤ (cv : Int) := by have := hu.2.2.1; omega
   have hag : Arg L w Av mv cv (v.2.2.take mv) := ⟨hu.take (by omega), fun b e hn0 => by
    rcases hpl with h | ⟨b', o', e', hb⟩
    ·omega
    ·rw [e'] at e; cases e; exact (HLI.out b').2 hb⟩
   have HAG := Lib.hid (hag.kp HK.out)
   have HPL := Lib.hid hpl
   have HV := Lib.hid (⟨hv0, hv1⟩ : _ ∧ _)
   clear hag hu hpl hac hblk
   go_upto_region 12 with fail
   go_cut [13] from 51 to 63 (fun v wx => v = .slice Av mv cv ∧ Below wr.heap.size wr wx)
   case first =>
    go_upto_region 12 with fail
    go_region
    all_goals
     go_wp2_with fail
     go_meet
     exact ⟨rfl, (Below.refl _ _).drew⟩
   case rest =>
   obtain ⟨rfl, hbw⟩ := hcut
   have c0 := (World.cell?_of_block (a := ⟨a, o + k * 3, none⟩) (hbw.block a (World.block_lt_of_cell? _ _ c0))).trans c0
   have c1 := (World.cell?_of_block (a := ⟨a, o + k * 3 + 1, none⟩) (hbw.block a (World.block_lt_of_cell? _ _ c1))).trans c1
   have hD2 := HD.out.below hbw
   have HK2 := Lib.hid (HK.out.trans hD2.2)
   have HAG2 := Lib.hid (HAG.out.kp hD2.2)
   have HD2 := Lib.hid hD2.1
   clear hbw hD2 c2 HAG
   have hyl : (v.2.2.take mv).length = mv := HAG2.out.1.1
   obtain ⟨ys, hys⟩ : ∃ ys, v.2.2.take mv = ys := ⟨_, rfl⟩
   rw [hys] at HAG2 hyl
   have hmv100 : mv ≤ 100 := by omega
   have hpin := HIN.out.inv.pin
   have hpb := HIN.out.inv.pb
   have hls := HIN.out.ls
   have hlo := HIN.out.lo
   have hk40 : k < 40 := by omega
   obtain ⟨hck1, hck2, hck3, hck4, hck5⟩ := HIN.out.check
   have HC := Lib.hid hck2
   obtain ⟨sd, hd2⟩ := HD2.out.desk
   have hX := hd2
   unfold dkC at hX
   have d0 := cell_of hX 0
   have d3 := cell_of hX 5
   have z7 := strOfNums_size s.sent
   have z8 := strOfNums_size s.got
   have z9 := strOfNums_size s.out
   have z10 := strOfNums_size s.taken
   clear hys hX hd2 hck2 HK HD
   go_upto_block 2 with fail
   go_cut [7, 8, 9, 10, 11, 13, 14, 15, 16, 17, 18] from 69 to 191 (fun s7 s8 s9 s10 s11 s13 s14 s15 s16 s17 s18 wx => LwAt L d P (.pointer (some ⟨N, 0, none⟩)) mx (100 * (k + 1)) w s7 s8 s9 s10 s11 wx)
   case first =>
    obtain hr | hr | hr | hr : v.1 % 4 = 0 ∨ v.1 % 4 = 1 ∨ v.1 % 4 = 2 ∨ v.1 % 4 = 3 := by omega
    ·as_aux_lemma =>
      obtain ⟨f, hf⟩ : ∃ f, s.g.fits ys = f := ⟨_, rfl⟩
      have hfd : f = min mv (256 - s.g.pin.length) := by rw [← hf]; unfold Gs.fits; rw [hyl]
      have hso := send_op s.g wc HD2.out hpin Av mv cv ys HAG2.out.1 (by omega)
      rw [hf] at hso
      have HF := Lib.hid hf
      have hfb : f ≤ mv ∧ f ≤ 256 ∧ (f = mv ∨ 256 ≤ f + s.g.pin.length) := by omega
      clear hf hfd
      go_wp2_with fail
      refine hso.mono ?_
      rintro e w4 ⟨rfl, hD4, hK4⟩
      have hag4 := HAG2.out.kp hK4
      have htx : (convert 33 9 (.slice Av f cv)).run Try.prog w4 = .ok (.string (strOfNums (ys.take f))) w4 := (hag4.1.take (k := f) (by omega)).text Try.underlying33 Try.underlying5 Try.underlying9 0
      have q5 : ¬ (f : Int) < 0 := by omega
      have q6 : ¬ (mv : Int) < (f : Int) := by omega
      have q7 : (f : Int) ≤ (cv : Int) := by omega
      have zt : (strOfNums (ys.take f)).size = f := by rw [strOfNums_size, List.length_take, hyl]; omega
      have hsg := congrArg List.length HIN.out.sent
      simp only [List.length_append] at hsg
      have hsl : s.got.length + s.g.pin.length ≤ s.sent.length := by omega
      have hw1 : IntKind.i64.wrap ((f : Int) + (s.sent.length : Int)) = f + s.sent.length := IntWalk.i64_in _ (by omega)
      have hw2 : IntKind.i64.wrap ((f : Int) + (s.sent.length : Int) - (s.got.length : Int)) = f + s.sent.length - s.got.length := IntWalk.i64_in _ (by omega)
      have HDK := Lib.hid (⟨hD4, hK4⟩ : _ ∧ _)
      clear hso hD4 hK4 hag4 hsg
      by_cases hfm : f = mv
      ·have q8 : ¬ (f : Int) < (mv : Int) := by omega
       clear hfm hfb
       go_wp2_with fail
       go_meet
       refine ⟨s.snd ys, ?_, rfl, rfl, rfl, rfl, (HIN.out.snd ys).mono (by omega), HDK.out.1, HK2.out.trans HDK.out.2⟩
       show _ = Value.string (strOfNums (s.sent ++ ys.take (s.g.fits ys)))
       rw [HF.out, so_append]
      ·have q8 : (f : Int) < (mv : Int) := by omega
       have q9 : ¬ (f : Int) + (s.sent.length : Int) - (s.got.length : Int) < 256 := by omega
       go_wp2_with fail
       go_meet
       refine ⟨s.snd ys, ?_, rfl, rfl, rfl, rfl, (HIN.out.snd ys).mono (by omega), HDK.out.1, HK2.out.trans HDK.out.2⟩
       show _ = Value.string (strOfNums (s.sent ++ ys.take (s.g.fits ys)))
       rw [HF.out, so_append]
    ·as_aux_lemma =>
      have hst1 : ∃ (M : Nat) (s2 : Ls), M + mv ≤ 100 * (k + 1) ∧ LInv mx M s2 ∧ s2.sent = s.sent ∧ s2.got = s.got ∧ s2.taken = s.taken ∧ s2.short = s.short ∧ s2.out = s.out ∧ DkAt L d P (.pointer (some ⟨N, 0, none⟩)) mx 1 s2.g wc := ⟨100 * k, s, by omega, HIN.out, rfl, rfl, rfl, rfl, rfl, HD2.out⟩
      have HST1 := Lib.hid hst1
      simp only [hr]
      clear hr
      clear hst1 d0 d3 c0 c1 hpin hpb hls hlo hck1 hck3 hck4 hck5
      go_wp2_with fail
      go_loopw [9, 13] (fun s9 bv wr => ∃ (M : Nat) (s2 : Ls) (A2 : Option Addr) (n2 c2 : Nat) (zs : List Int), s9 = .string (strOfNums s2.out) ∧ bv = .slice A2 n2 c2 ∧ Arg L wr A2 n2 c2 zs ∧ (n2 = 0 ∨ ∃ b o, A2 = some ⟨b, o, none⟩) ∧ M + n2 ≤ 100 * (k + 1) ∧ LInv mx M s2 ∧ s2.sent = s.sent ∧ s2.got = s.got ∧ s2.taken = s.taken ∧ s2.short = s.short ∧ DkAt L d P (.pointer (some ⟨N, 0, none⟩)) mx 1 s2.g wr ∧ Kp L w wr) (fun _ bv _ => lenOf bv)
      case atStart =>
       obtain ⟨M, s2, h1, h2, h3, h4, h5, h6, h7, h8⟩ := HST1.out
       exact ⟨M, s2, Av, mv, cv, ys, by rw [h7], rfl, HAG2.out, HPL.out.imp (fun h => by omega) (fun ⟨b, o, e, _⟩ => ⟨b, o, e⟩), h1, h2, h3, h4, h5, h6, h8, HK2.out⟩
      case round =>
       obtain ⟨M, s2, A2, n2, c2, zs, rfl, rfl, hag, hpl2, hM, hin2, hse, hgo, hta, hsh, hD2', hK2'⟩ := hrel
       have HIN2 := Lib.hid hin2
       have HD2' := Lib.hid hD2'
       have HK2' := Lib.hid hK2'
       have HAG' := Lib.hid hag
       have HSE := Lib.hid (⟨hse, hgo, hta, hsh⟩ : _ ∧ _ ∧ _ ∧ _)
       have hnc2 := hag.1.2.2.1
       clear hse hgo hta hsh
       by_cases hn2 : n2 = 0
       ·subst hn2
        clear hag hin2 hD2' hK2' hpl2
        go_wp2_with fail
        go_meet
        obtain ⟨hse, hgo, hta, hsh⟩ := HSE.out
        exact ⟨s2, by rw [hse], by rw [hgo], rfl, by rw [hta], by rw [hsh], HIN2.out.mono (by omega), HD2'.out, HK2'.out⟩
       obtain ⟨b2, o2, rfl⟩ : ∃ b o, A2 = some ⟨b, o, none⟩ := hpl2.resolve_left hn2
       have q3 : (0 : Int) < (n2 : Int) := by omega
       obtain ⟨kk, hkk⟩ : ∃ kk, min n2 mx = kk := ⟨_, rfl⟩
       have q4 : min (n2 : Int) (mx : Int) = (kk : Int) := by omega
       have q5 : (kk : Int) ≤ (c2 : Int) := by omega
       have q6 : (kk : Int) ≤ (n2 : Int) := by omega
       have hkb : 0 < kk ∧ kk ≤ n2 ∧ kk ≤ mx := by omega
       obtain ⟨sd2, hd2⟩ := hD2'.desk
       have hX := hd2
       unfold dkC at hX
       have e3 := cell_of hX 5
       have hzl : (zs.take kk).length = kk := by rw [List.length_take, hag.1.1]; omega
       have hwr := write_op ⟨N, 0, none⟩ s2.g wr hD2' hin2.inv (some ⟨b2, o2, none⟩) kk c2 (zs.take kk) ⟨hag.1.take (by omega), fun a e _ => hag.2 a e hn2⟩ ⟨by omega, c2, .inl ⟨by omega, b2, o2, rfl⟩⟩ (by omega)
       obtain ⟨bo, hbo⟩ : ∃ bo, (s2.g.wr mx (zs.take kk) 4).1 = bo := ⟨_, rfl⟩
       have hlw := hin2.wr (xs := zs.take kk) (by omega) 4
       have HLW := Lib.hid hlw
       have HBO := Lib.hid hbo
       have HZL := Lib.hid hzl
       unfold WrEnd at hwr
       rw [hbo] at hwr
       clear hX hd2 hag hin2 hD2' hK2' hkk hbo hlw hpl2 hzl
       go_wp2_with fail
       refine hwr.mono ?_
       rintro e w5 ⟨rfl, hD5, hK5⟩
       have HD5 := Lib.hid hD5
       have HK5 := Lib.hid hK5
       obtain ⟨sd5, hd5⟩ := hD5.desk
       have hX := hd5
       unfold dkC at hX
       have e5 := cell_of hX 5
       have hag5 := HAG'.out.kp hK5
       have HAG5 := Lib.hid hag5
       clear hX hd5 hwr hD5 hK5 e3
       cases bo with
       | false =>
        have hpb5 := HLW.out.2 HBO.out
        have hfull := wr_full HIN2.out.inv (k := 2) HBO.out
        have hot := congrArg List.length HIN2.out.out
        have hta := HSE.out.2.2.1
        rw [List.length_append, hta] at hot
        have hpb2 := HIN2.out.inv.pb
        have hlo2 := HIN2.out.lo
        have zo := strOfNums_size s2.out
        have hge : s.taken.length ≤ s2.out.length ∧ 256 - (mx : Int) < (s2.out.length : Int) - (s.taken.length : Int) := by omega
        have q7 : ¬ (s2.out.length : Int) - (s.taken.length : Int) ≤ 256 - (mx : Int) := by omega
        have w1 : IntKind.i64.wrap ((s2.out.length : Int) - (s.taken.length : Int)) = s2.out.length - s.taken.length := IntWalk.i64_in _ (by omega)
        have w2 : IntKind.i64.wrap (256 - (mx : Int)) = 256 - mx := IntWalk.i64_in _ (by omega)
        clear hot hta hfull hpb5 hag5
        go_wp2_with fail
        go_meet
        obtain ⟨hse, hgo, hta, hsh⟩ := HSE.out
        have h9 := HLW.out.1
        refine ⟨s2.wr mx (zs.take kk) 4, by rw [← hse]; rfl, by rw [← hgo]; rfl, ?_, by rw [← hta]; rfl, by rw [← hsh]; rfl, h9.mono (by rw [HZL.out]; omega), HD5.out, HK2'.out.trans HK5.out⟩
        show _ = Value.string (strOfNums (if (s2.g.wr mx (zs.take kk) 4).1 then s2.out ++ zs.take kk else s2.out))
        rw [HBO.out]; rfl
       | true =>
        have htx : (convert 33 9 (.slice (some ⟨b2, o2, none⟩) kk c2)).run Try.prog w5 = .ok (.string (strOfNums (zs.take kk))) w5 := (hag5.1.take (k := kk) (by omega)).text Try.underlying33 Try.underlying5 Try.underlying9 0
        have zo := strOfNums_size s2.out
        have zt : (strOfNums (zs.take kk)).size = kk := (strOfNums_size _).trans HZL.out
        have hlo2 := HIN2.out.lo
        have hstr : strOfNums s2.out ++ strOfNums (zs.take kk) = strOfNums (s2.wr mx (zs.take kk) 4).out := by
         show _ = strOfNums (if (s2.g.wr mx (zs.take kk) 4).1 then s2.out ++ zs.take kk else s2.out)
         rw [HBO.out, if_pos rfl, so_append]
        have HSTR := Lib.hid hstr
        clear hstr hag5
        have hfin : ∀ A3, U8 w5 A3 (n2 - kk) (c2 - kk) (zs.drop kk) → (∀ a, A3 = some a → n2 - kk ≠ 0 → L a.block) → (n2 - kk = 0 ∨ ∃ b o, A3 = some ⟨b, o, none⟩) → ∃ (M : Nat) (s3 : Ls) (A2' : Option Addr) (n2' c2' : Nat) (zs' : List Int), Value.string (strOfNums s2.out ++ strOfNums (zs.take kk)) = .string (strOfNums s3.out) ∧ Value.slice A3 (n2 - kk) (c2 - kk) = .slice A2' n2' c2' ∧ Arg L w5 A2' n2' c2' zs' ∧ (n2' = 0 ∨ ∃ b o, A2' = some ⟨b, o, none⟩) ∧ M + n2' ≤ 100 * (k + 1) ∧ LInv mx M s3 ∧ s3.sent = s.sent ∧ s3.got = s.got ∧ s3.taken = s.taken ∧ s3.short = s.short ∧ DkAt L d P (.pointer (some ⟨N, 0, none⟩)) mx 1 s3.g w5 ∧ Kp L w w5 := by
         intro A3 h1 h2 h3
         obtain ⟨hse, hgo, hta, hsh⟩ := HSE.out
         exact ⟨M + (zs.take kk).length, s2.wr mx (zs.take kk) 4, A3, n2 - kk, c2 - kk, zs.drop kk, by rw [HSTR.out], rfl, ⟨h1, h2⟩, h3, by rw [HZL.out]; omega, HLW.out.1, hse, hgo, hta, hsh, HD5.out, HK2'.out.trans HK5.out⟩
        have HFIN := Lib.hid hfin
        clear hfin
        by_cases hck : c2 = kk
        ·have hnk : n2 - kk = 0 := by omega
         have hu0 : U8 w5 (some ⟨b2, o2, none⟩) 0 0 [] := ⟨rfl, (fun _ h => nomatch h), Nat.le_refl _, .inr ⟨_, rfl, fun j hj => by omega⟩⟩
         have hres := HFIN.out (some ⟨b2, o2, none⟩) (by rw [hnk, hck, Nat.sub_self, List.drop_eq_nil_of_le (by rw [HAG'.out.1.1]; omega)]; exact hu0) (fun a _ h => absurd hnk h) (.inl hnk)
         rw [hnk, hck, Nat.sub_self] at hres
         rw [hck] at htx
         have HRES := Lib.hid hres
         have q8 : ((c2 : Int) == (kk : Int)) = true := by simp; omega
         clear hres hu0
         go_wp2_with fail
         go_roundw
         case rel => exact HRES.out
         case measure => simp [lenOf]; omega
        ·have q8 : ((c2 : Int) == (kk : Int)) = false := by simp; omega
         go_wp2_with fail
         go_roundw
         case rel => exact HFIN.out (some ⟨b2, o2 + kk, none⟩) (u8_drop HAG5.out.1 (by omega)) (fun a e _ => by cases e; exact HAG5.out.2 ⟨b2, o2, none⟩ rfl hn2) (.inr ⟨_, _, rfl⟩)
         case measure => simp [lenOf]; omega
    ·as_aux_lemma =>
      have hst1 : LwAt L d P (.pointer (some ⟨N, 0, none⟩)) mx (100 * (k + 1)) w (.string (strOfNums s.sent)) (.string (strOfNums s.got)) (.string (strOfNums s.out)) (.string (strOfNums s.taken)) (.bool s.short) wc := ⟨s, rfl, rfl, rfl, rfl, rfl, HIN.out.mono (by omega), HD2.out, HK2.out⟩
      have HST1 := Lib.hid hst1
      obtain ⟨tt, htt⟩ : ∃ tt : Nat, v.2.1 % 40 = tt := ⟨(v.2.1 % 40).toNat, by omega⟩
      have htb : tt < 40 := by omega
      have HC1 := Lib.hid c1
      simp only [hr]
      clear hr
      clear hst1 d0 d3 c0 c1 hpin hpb hls hlo hck1 hck3 hck4 hck5 z7 z8 z9 z10
      go_wp2_with fail
      go_loopw [8, 11, 16] (fun s8 s11 i wr => ∃ (j : Nat), i = .int .i64 j ∧ j ≤ tt ∧ ∃ s2 : Ls, s8 = .string (strOfNums s2.got) ∧ s11 = .bool s2.short ∧ s2.sent = s.sent ∧ s2.out = s.out ∧ s2.taken = s.taken ∧ LInv mx (100 * (k + 1)) s2 ∧ DkAt L d P (.pointer (some ⟨N, 0, none⟩)) mx 1 s2.g wr ∧ Kp L w wr) (fun _ _ i _ => tt - (intOf i).toNat)
      case atStart => exact ⟨0, rfl, by omega, s, rfl, rfl, rfl, rfl, rfl, HIN.out.mono (by omega), HD2.out, HK2.out⟩
      case round =>
       obtain ⟨j, rfl, hj, s2, rfl, rfl, hse, hou, hta, hin2, hD2', hK2'⟩ := hrel
       have HSE := Lib.hid (⟨hse, hou, hta⟩ : _ ∧ _ ∧ _)
       have HIN2 := Lib.hid hin2
       have HDK2 := Lib.hid (⟨hD2', hK2'⟩ : _ ∧ _)
       have c1 := (World.cell?_of_block (a := ⟨a, o + k * 3 + 1, none⟩) ((hK2'.block a hab ((HLI.out a).2 hab)).trans (HK2.out.block a hab ((HLI.out a).2 hab)).symm)).trans HC1.out
       have w16 : IntKind.i64.wrap (v.2.1 % 40) = tt := by rw [htt]; exact IntWalk.i64_in _ (by omega)
       clear hse hou hta hin2 hD2' hK2'
       by_cases hjt : j = tt
       ·subst hjt
        go_wp2_with fail
        go_meet
        obtain ⟨hse, hou, hta⟩ := HSE.out
        exact ⟨s2, by rw [hse], rfl, by rw [hou], by rw [hta], rfl, HIN2.out, HDK2.out.1, HDK2.out.2⟩
       have q3 : (j : Int) < (tt : Int) := by omega
       have hrd := read_op s2.g wr HDK2.out.1 (fun x hx => by have := HIN2.out.inv.q x hx; omega) HIN2.out.inv.t0
       go_wp2_with fail
       refine hrd.mono ?_
       rintro e w4 ⟨A4, n4, c4, L', rfl, hLL, hag4, hD4, hK4⟩
       obtain ⟨sd4, hd4⟩ := hD4.desk
       have hX := hd4
       unfold dkC at hX
       have e0 := cell_of hX 0
       have htk := tick_ret L' d P ⟨N, 0, none⟩ mx s2.g.rd w4 HIN2.out.inv.rd.ok hD4
       obtain ⟨bo, hbo⟩ : ∃ bo, (s2.g.ep.rd.1.1 == 1) = bo := ⟨_, rfl⟩
       rw [hbo]
       have HBO := Lib.hid hbo
       have HAG4 := Lib.hid hag4
       have HLL := Lib.hid hLL
       have HK4 := Lib.hid hK4
       clear hX hd4 hrd hbo hag4 hLL hK4 hD4
       go_wp2_with fail
       refine htk.mono ?_
       rintro e w5 ⟨rfl, hD5, hK5⟩
       have hag5 := HAG4.out.kp hK5
       have hD5' := hD5.narrow (L' := L) HLL.out
       have HKK := Lib.hid (HDK2.out.2.trans (HK4.out.trans (hK5.sub HLL.out)))
       have hnx := (HIN2.out.rd).tick
       obtain ⟨sd5, hd5⟩ := hD5'.desk
       have hX := hd5
       unfold dkC at hX
       have e5 := cell_of hX 5
       have HD5 := Lib.hid hD5'
       have HNX := Lib.hid hnx
       have h4l := hag5.1.1
       clear htk hX hd5 hD5 hK5 hD5' hnx
       cases bo with
       | false =>
        have hr2 : s2.rd mx = { s2 with g := s2.g.rd } := by unfold Ls.rd; rw [if_neg (by rw [HBO.out]; decide)]
        have hfin : ∃ s3 : Ls, Value.string (strOfNums s2.got) = .string (strOfNums s3.got) ∧ Value.bool s2.short = .bool s3.short ∧ s3.sent = s.sent ∧ s3.out = s.out ∧ s3.taken = s.taken ∧ LInv mx (100 * (k + 1)) s3 ∧ DkAt L d P (.pointer (some ⟨N, 0, none⟩)) mx 1 s3.g w5 ∧ Kp L w w5 := by
         have h := HNX.out
         rw [hr2] at h
         exact ⟨{ s2 with g := s2.g.rd.tick mx }, rfl, rfl, HSE.out.1, HSE.out.2.1, HSE.out.2.2, h, HD5.out, HKK.out⟩
        have HFIN := Lib.hid hfin
        clear hr2 hfin h4l hag5
        go_wp2_with fail
        go_roundw
        case rel => exact ⟨j + 1, by push_cast; rfl, by omega, HFIN.out⟩
        case measure => simp [intOf]; omega
       | true =>
        have hr2 : s2.rd mx = { s2 with g := s2.g.rd, got := s2.got ++ s2.g.ep.rd.1.2, short := decide (s2.g.ep.rd.1.2.length < mx) } := by unfold Ls.rd; rw [if_pos (by rw [HBO.out])]
        have htx : (convert 33 9 (.slice A4 n4 c4)).run Try.prog w5 = .ok (.string (strOfNums s2.g.ep.rd.1.2)) w5 := hag5.1.text Try.underlying33 Try.underlying5 Try.underlying9 0
        have zg := strOfNums_size s2.got
        have zt : (strOfNums s2.g.ep.rd.1.2).size = n4 := (strOfNums_size _).trans h4l
        have hck := HIN2.out.check.1
        have hls2 := HIN2.out.ls
        have hn4 : n4 ≤ 1000000 := by
         have h := HNX.out.check.1
         have h2 := HNX.out.ls
         rw [hr2] at h h2
         simp only [List.length_append] at h h2
         omega
        have hfin : ∃ s3 : Ls, Value.string (strOfNums s2.got ++ strOfNums s2.g.ep.rd.1.2) = .string (strOfNums s3.got) ∧ Value.bool (decide ((n4 : Int) < (mx : Int))) = .bool s3.short ∧ s3.sent = s.sent ∧ s3.out = s.out ∧ s3.taken = s.taken ∧ LInv mx (100 * (k + 1)) s3 ∧ DkAt L d P (.pointer (some ⟨N, 0, none⟩)) mx 1 s3.g w5 ∧ Kp L w w5 := by
         have h := HNX.out
         rw [hr2] at h
         exact ⟨{ s2 with g := s2.g.rd.tick mx, got := s2.got ++ s2.g.ep.rd.1.2, short := decide (s2.g.ep.rd.1.2.length < mx) }, by rw [so_append], by rw [h4l]; simp, HSE.out.1, HSE.out.2.1, HSE.out.2.2, h, HD5.out, HKK.out⟩
        have HFIN := Lib.hid hfin
        clear hr2 hfin h4l hag5
        go_wp2_with fail
        go_roundw
        case rel => exact ⟨j + 1, by push_cast; rfl, by omega, by simpa using HFIN.out⟩
        case measure => simp [intOf]; omega
    ·as_aux_lemma =>
      have hro := recv_op s.g wc HD2.out hpb
      go_wp2_with fail
      refine hro.mono ?_
      rintro e w4 ⟨A4, rfl, hU4, hD4, hK4⟩
      have htx : (convert 33 9 (.slice A4 s.g.pb.length s.g.pb.length)).run Try.prog w4 = .ok (.string (strOfNums s.g.pb)) w4 := hU4.text Try.underlying33 Try.underlying5 Try.underlying9 0
      have zt := strOfNums_size s.g.pb
      have hrc := HIN.out.rcv
      have hto : strOfNums s.taken ++ strOfNums s.g.pb = strOfNums s.out := by rw [← so_append]; exact congrArg strOfNums hrc.2
      have HDK := Lib.hid (⟨hD4, hK4⟩ : _ ∧ _)
      have HRC := Lib.hid hrc
      clear hro hD4 hK4 hU4 hrc
      go_wp2_with fail
      go_meet
      exact ⟨s.rcv, rfl, rfl, rfl, congrArg (fun x => Value.string (strOfNums x)) HRC.out.2.symm, rfl, HRC.out.1.mono (by omega), HDK.out.1, HK2.out.trans HDK.out.2⟩
   case rest =>
   as_aux_lemma =>
    obtain ⟨s', rfl, rfl, rfl, rfl, rfl, hin', hD', hK'⟩ := hcut
    have HIN' := Lib.hid hin'
    have HD' := Lib.hid hD'
    have HK' := Lib.hid hK'
    obtain ⟨hk1, hk2, hk3, hk4, hk5⟩ := hin'.check
    obtain ⟨sd', hd'⟩ := hD'.desk
    have hX := hd'
    unfold dkC at hX
    have d3 := cell_of hX 5
    have z7 := strOfNums_size s'.sent
    have z8 := strOfNums_size s'.got
    have z9 := strOfNums_size s'.out
    have z10 := strOfNums_size s'.taken
    have hls' := hin'.ls
    have hlo' := hin'.lo
    have q3 : ¬ (s'.sent.length : Int) < (s'.got.length : Int) := by omega
    have q4 : (s'.got.length : Int) ≤ (s'.sent.length : Int) := by omega
    have hsl : (Instr.slice 9 (.string (strOfNums s'.sent)) none (some (.int .i64 s'.got.length)) none).run Try.prog wc = .ok (.string (strOfNums s'.got)) wc := by
     rw [run_slice_string_h wc 9 (strOfNums s'.sent) Try.underlying9 .i64 s'.got.length (by omega) (by rw [z7]; omega), Int.toNat_natCast, so_take, hk2]
    have w1 : IntKind.i64.wrap ((s'.out.length : Int) - (s'.taken.length : Int)) = s'.out.length - s'.taken.length := IntWalk.i64_in _ (by omega)
    have q5 : ¬ (256 : Int) < (s'.out.length : Int) - (s'.taken.length : Int) := by omega
    have w2 : IntKind.i64.wrap ((s'.sent.length : Int) - (s'.got.length : Int)) = s'.sent.length - s'.got.length := IntWalk.i64_in _ (by omega)
    have w3 : IntKind.i64.wrap (2 * (mx : Int)) = 2 * mx := IntWalk.i64_in _ (by omega)
    have w4 : IntKind.i64.wrap (256 + 2 * (mx : Int)) = 256 + 2 * mx := IntWalk.i64_in _ (by omega)
    have q6 : ¬ (256 : Int) + 2 * (mx : Int) < (s'.sent.length : Int) - (s'.got.length : Int) := by omega
    clear hX hd' hin' hD' hK' hk1 hk2 hk3 hk4 hk5 hpin hpb hls hlo hck1 hck3 hck4 hck5 c0 c1 d0 HC
    go_wp2_with fail
    go_roundw
    case rel => exact ⟨k + 1, by push_cast; rfl, by omega, s', rfl, rfl, rfl, rfl, rfl, HIN'.out, HD'.out, HK'.out⟩
    case measure => simp [intOf]; omega
 case rest =>
 obtain ⟨s, rfl, rfl, rfl, rfl, rfl, hin, hD, hK⟩ := hcut
 have HIN := Lib.hid hin
 have HD := Lib.hid hD
 have HK := Lib.hid hK
 have h40 : s.msr ≤ 40 := hin.msr
 clear hin hD hK
 go_upto_block 7 with fail
 go_cut [8, 11, 19, 20, 21] from 227 to 252 (fun s8 s11 s19 s20 s21 wx => ∃ s2 : Ls, s8 = .string (strOfNums s2.got) ∧ s11 = .bool s2.short ∧ s2.sent = s.sent ∧ s2.out = s.out ∧ s2.taken = s.taken ∧ LInv mx 4000 s2 ∧ DkAt L d P (.pointer (some ⟨N, 0, none⟩)) mx 1 s2.g wx ∧ Kp L w wx ∧ s2.msr = 0)
 case first =>
  as_aux_lemma =>
   go_wp2_with fail
   go_loopw [8, 11, 19] (fun s8 s11 i wr => ∃ (j : Nat), i = .int .i64 j ∧ j ≤ 80 ∧ ∃ s2 : Ls, s8 = .string (strOfNums s2.got) ∧ s11 = .bool s2.short ∧ s2.sent = s.sent ∧ s2.out = s.out ∧ s2.taken = s.taken ∧ LInv mx 4000 s2 ∧ DkAt L d P (.pointer (some ⟨N, 0, none⟩)) mx 1 s2.g wr ∧ Kp L w wr ∧ (s2.msr = 0 ∨ s2.msr + j ≤ 40)) (fun _ _ i _ => 80 - (intOf i).toNat)
   case atStart => exact ⟨0, rfl, by omega, s, rfl, rfl, rfl, rfl, rfl, HIN.out, HD.out, HK.out, .inr (by omega)⟩
   case round =>
    obtain ⟨j, rfl, hj, s2, rfl, rfl, hse, hou, hta, hin2, hD2', hK2', hms⟩ := hrel
    have HSE := Lib.hid (⟨hse, hou, hta⟩ : _ ∧ _ ∧ _)
    have HIN2 := Lib.hid hin2
    have HDK2 := Lib.hid (⟨hD2', hK2'⟩ : _ ∧ _)
    have HMS := Lib.hid hms
    clear hse hou hta hin2 hms
    by_cases hjt : j = 80
    ·subst hjt
     clear hD2' hK2'
     go_wp2_with fail
     go_meet
     exact ⟨s2, rfl, rfl, HSE.out.1, HSE.out.2.1, HSE.out.2.2, HIN2.out, HDK2.out.1, HDK2.out.2, HMS.out.elim id (fun h => by omega)⟩
    have q3 : (j : Int) < 80 := by omega
    obtain ⟨sd4, hd4⟩ := hD2'.desk
    have hX := hd4
    unfold dkC at hX
    have e0 := cell_of hX 0
    have htk := tick_ret L d P ⟨N, 0, none⟩ mx s2.g wr HIN2.out.inv.ok hD2'
    clear hX hd4 hD2' hK2'
    go_wp2_with fail
    refine htk.mono ?_
    rintro e w4 ⟨rfl, hD4, hK4⟩
    have hint := HIN2.out.tick
    have hrd := read_op (s2.g.tick mx) w4 hD4 (fun x hx => by have := hint.inv.q x hx; omega) hint.inv.t0
    have HK4 := Lib.hid hK4
    clear htk e0 hK4 hD4
    go_wp2_with fail
    refine hrd.mono ?_
    rintro e w5 ⟨A4, n4, c4, L', rfl, hLL, hag5, hD5, hK5⟩
    obtain ⟨bo, hbo⟩ : ∃ bo, ((s2.g.tick mx).ep.rd.1.1 == 1) = bo := ⟨_, rfl⟩
    rw [hbo]
    have HBO := Lib.hid hbo
    have hD5' := hD5.narrow (L' := L) hLL
    obtain ⟨sd5, hd5⟩ := hD5'.desk
    have hX := hd5
    unfold dkC at hX
    have e5 := cell_of hX 5
    have HD5 := Lib.hid hD5'
    have HKK := Lib.hid (HDK2.out.2.trans (HK4.out.trans hK5))
    have hnx := HIN2.out.rnd
    have hmr : (s2.rnd mx).msr = 0 ∨ (s2.rnd mx).msr + (j + 1) ≤ 40 := by
     have h1 := msr_rnd HIN2.out
     have h2 := HMS.out
     omega
    have HNX := Lib.hid (⟨hnx, hmr⟩ : _ ∧ _)
    have h4l := hag5.1.1
    clear hrd hX hd5 hD5 hK5 hD5' hnx hmr hbo hLL hint
    cases bo with
    | false =>
     have hr2 : s2.rnd mx = { s2 with g := (s2.g.tick mx).rd } := by unfold Ls.rnd Ls.rd; rw [if_neg (by rw [HBO.out]; decide)]
     have hfin : ∃ s3 : Ls, Value.string (strOfNums s2.got) = .string (strOfNums s3.got) ∧ Value.bool s2.short = .bool s3.short ∧ s3.sent = s.sent ∧ s3.out = s.out ∧ s3.taken = s.taken ∧ LInv mx 4000 s3 ∧ DkAt L d P (.pointer (some ⟨N, 0, none⟩)) mx 1 s3.g w5 ∧ Kp L w w5 ∧ (s3.msr = 0 ∨ s3.msr + (j + 1) ≤ 40) := by
      have h := HNX.out
      rw [hr2] at h
      exact ⟨{ s2 with g := (s2.g.tick mx).rd }, rfl, rfl, HSE.out.1, HSE.out.2.1, HSE.out.2.2, h.1, HD5.out, HKK.out, h.2⟩
     have HFIN := Lib.hid hfin
     clear hr2 hfin h4l hag5
     go_wp2_with fail
     go_roundw
     case rel => exact ⟨j + 1, by push_cast; rfl, by omega, HFIN.out⟩
     case measure => simp [intOf]; omega
    | true =>
     have hr2 : s2.rnd mx = { s2 with g := (s2.g.tick mx).rd, got := s2.got ++ (s2.g.tick mx).ep.rd.1.2, short := decide ((s2.g.tick mx).ep.rd.1.2.length < mx) } := by unfold Ls.rnd Ls.rd; rw [if_pos (by rw [HBO.out])]
     have htx : (convert 33 9 (.slice A4 n4 c4)).run Try.prog w5 = .ok (.string (strOfNums (s2.g.tick mx).ep.rd.1.2)) w5 := hag5.1.text Try.underlying33 Try.underlying5 Try.underlying9 0
     have zg := strOfNums_size s2.got
     have zt : (strOfNums (s2.g.tick mx).ep.rd.1.2).size = n4 := (strOfNums_size _).trans h4l
     have hck := HIN2.out.check.1
     have hls2 := HIN2.out.ls
     have hn4 : n4 ≤ 1000000 := by
      have h := HNX.out.1.check.1
      have h2 := HNX.out.1.ls
      rw [hr2] at h h2
      simp only [List.length_append] at h h2
      omega
     have hfin : ∃ s3 : Ls, Value.string (strOfNums s2.got ++ strOfNums (s2.g.tick mx).ep.rd.1.2) = .string (strOfNums s3.got) ∧ Value.bool (decide ((n4 : Int) < (mx : Int))) = .bool s3.short ∧ s3.sent = s.sent ∧ s3.out = s.out ∧ s3.taken = s.taken ∧ LInv mx 4000 s3 ∧ DkAt L d P (.pointer (some ⟨N, 0, none⟩)) mx 1 s3.g w5 ∧ Kp L w w5 ∧ (s3.msr = 0 ∨ s3.msr + (j + 1) ≤ 40) := by
      have h := HNX.out
      rw [hr2] at h
      exact ⟨{ s2 with g := (s2.g.tick mx).rd, got := s2.got ++ (s2.g.tick mx).ep.rd.1.2, short := decide ((s2.g.tick mx).ep.rd.1.2.length < mx) }, by rw [so_append], by rw [h4l]; simp, HSE.out.1, HSE.out.2.1, HSE.out.2.2, h.1, HD5.out, HKK.out, h.2⟩
     have HFIN := Lib.hid hfin
     clear hr2 hfin h4l hag5
     go_wp2_with fail
     go_roundw
     case rel => exact ⟨j + 1, by push_cast; rfl, by omega, by simpa using HFIN.out⟩
     case measure => simp [intOf]; omega
 case rest =>
 as_aux_lemma =>
  obtain ⟨s2, rfl, rfl, hse, hou, hta, hin2, hD2', hK2', hms⟩ := hcut
  obtain ⟨hgs, hsh⟩ := hin2.over hms
  rw [hgs, hse, hsh, ← hta, ← hou]
  have HIN2 := Lib.hid hin2
  have hro := recv_op s2.g wc hD2' hin2.inv.pb
  obtain ⟨sd2, hd2⟩ := hD2'.desk
  have hX := hd2
  unfold dkC at hX
  have e0 := cell_of hX 0
  have HK2' := Lib.hid hK2'
  have hpb := hin2.inv.pb
  have hlo := hin2.lo
  have hck := hin2.check.2.2.2.1
  clear hX hd2 hse hou hta hin2 hD2' hK2' hgs hsh hms h40
  go_wp2_with fail
  refine hro.mono ?_
  rintro e w4 ⟨A4, rfl, hU4, hD4, hK4⟩
  have htx : (convert 33 9 (.slice A4 s2.g.pb.length s2.g.pb.length)).run Try.prog w4 = .ok (.string (strOfNums s2.g.pb)) w4 := hU4.text Try.underlying33 Try.underlying5 Try.underlying9 0
  have zt := strOfNums_size s2.g.pb
  have z10 := strOfNums_size s2.taken
  have hto : strOfNums s2.taken ++ strOfNums s2.g.pb = strOfNums s2.out := by rw [← so_append]; exact congrArg strOfNums HIN2.out.rcv.2
  have HD4 := Lib.hid hD4
  have HKK4 := Lib.hid (HK2'.out.trans hK4)
  obtain ⟨sd4, hd4⟩ := hD4.desk
  have hX := hd4
  unfold dkC at hX
  have e4 := cell_of hX 0
  clear hro e0 hU4 hD4 hK4 hX hd4
  go_upto_region 52 with fail
  obtain ⟨w5, hw5⟩ : ∃ w5, w4.alloc (.cells #[.int .u8 1, .int .u8 2, .int .u8 3] 5) = w5 := ⟨_, rfl⟩
  have hb5 : Below w4.heap.size w4 w5 := by rw [← hw5]; exact (Below.refl _ _).alloc (Nat.le_refl _) _
  have hc5 : w5.heap[w4.heap.size]? = some (.cells #[.int .u8 1, .int .u8 2, .int .u8 3] 5 (0, 0)) := by rw [← hw5]; exact heap_alloc_new w4 _
  have hU5 : U8 w5 (some ⟨w4.heap.size, 0, none⟩) 3 3 [1, 2, 3] := ⟨rfl, by simp, Nat.le_refl _, .inr ⟨_, rfl, fun j hj => by
   obtain rfl | rfl | rfl : j = 0 ∨ j = 1 ∨ j = 2 := by omega
   ·exact cell_of hc5 0
   ·exact cell_of hc5 1
   ·exact cell_of hc5 2⟩⟩
  have hD5 := HD4.out.below hb5
  have hso := send_op s2.g.rcv w5 hD5.1 HIN2.out.rcv.1.inv.pin (some ⟨w4.heap.size, 0, none⟩) 3 3 [1, 2, 3] hU5 (by omega)
  have HKK5 := Lib.hid (HKK4.out.trans hD5.2)
  clear hb5 hc5 hU5 hD5 hpb hlo hck zt z10 hto htx
  go_wp2_with fail
  refine hso.mono ?_
  rintro e w6 ⟨rfl, hD6, hK6⟩
  have hrd := ready_op false _ w6 hD6
  rw [if_neg (by decide), if_neg (by decide)] at hrd
  have HKK6 := Lib.hid (HKK5.out.trans hK6)
  clear hso hD6 hK6 hw5 e4
  go_wp2_with fail
  refine hrd.mono ?_
  rintro e w7 ⟨rfl, hD7, hK7⟩
  obtain ⟨w8, hw8⟩ : ∃ w8, w7.alloc (.cells #[.int .u8 1] 5) = w8 := ⟨_, rfl⟩
  have hb8 : Below w7.heap.size w7 w8 := by rw [← hw8]; exact (Below.refl _ _).alloc (Nat.le_refl _) _
  have hD8 := hD7.below hb8
  obtain ⟨sd7, hd7⟩ := hD7.desk
  have hX := hd7
  unfold dkC at hX
  have e7 := cell_of hX 0
  have hd8 := heap_below hd7 hb8
  have hX8 := hd8
  unfold dkC at hX8
  have e8 := cell_of hX8 0
  have hs8 := send_no _ w8 hD8.1 (some ⟨w7.heap.size, 0, none⟩) 1 1
  have hr8 := recv_no _ w8 hD8.1 rfl
  have HKK8 := Lib.hid (HKK6.out.trans (hK7.trans hD8.2))
  clear hrd hX hX8 hd7 hd8 hD7 hK7 hb8 hD8
  go_wp2_with fail
  refine hs8.mono ?_
  rintro e w0 ⟨rfl, hw0⟩
  rw [hw0]
  clear hw0
  go_wp2_with fail
  refine hr8.mono ?_
  rintro e w9 ⟨A9, rfl, hK9⟩
  have HKK9 := Lib.hid (HKK8.out.trans hK9)
  clear hs8 hr8 hK9
  go_wp2_with fail
  refine (HL.out w9).mono ?_
  rintro e w10 ⟨rfl, hb10⟩
  go_wp2_with fail
  go_ret
  have hk := HKK9.out
  exact ⟨rfl, hb10.os.trans hk.os, hb10.tape.trans hk.tape, hb10.output.trans hk.output, Nat.le_trans hk.size hb10.size, fun i hi => (hb10.block i (Nat.lt_of_lt_of_le hi hk.size)).trans (hk.block i hi ((HLI.out i).2 hi))⟩
end Go.Proofs.Ythifcblajimppaa
