/-
  What is proved here: what pipes.Begin returns where all is well, whatever the pipe's kind.
  Conditions: what the parts return.
-/
import Derived.Test.YthapmkbeolbmiaaGreatDoorQUse
import Derived.Test.YthapmkbeolbmiaaGreatDoorQBare
import Derived.Test.YthapmkbeolbmiaaGreatDoorQBegOk
import Derived.Test.YthapmkbeolbmiaaGreatDoorQNx
import Derived.Test.YthapmkbeolbmiaaGreatDoorQPin
import Derived.Test.YthapmkbeolbmiaaGreatDoorQBn
import Derived.Test.YthapmkbeolbmiaaGreatDoorQCut
namespace Go.Proofs.YthapmkbeolbmiaaGreatDoor
open Go.Proofs Go.RowKit Go.Sy

/-- a work is 47 cells -/
def Is47 (W : Value) : Prop := ∃ (x0 : Bool) (x1 : Int) (x2 : Int) (x3 : Bool) (x4 : Int) (x5 : Int) (x6 : Int) (x7 : Int) (x8 : Int) (x9 : Int) (x10 : Bool) (x11 : Bool) (x12 : Int) (x13 : Int) (x14 : Int) (x15 : Int) (x16 : Int) (x17 : Int) (x18 : Option Addr) (y18 z18 : Nat) (x19 : Int) (x20 : Bool) (x21 : Int) (x22 : Option Addr) (y22 z22 : Nat) (x23 : Int) (x24 : Int) (x25 : Bool) (x26 : Int) (x27 : Int) (x28 : Bool) (x29 : Option Addr) (y29 z29 : Nat) (x30 : Bool) (x31 : Int) (x32 : Option Addr) (y32 z32 : Nat) (x33 : Option Addr) (y33 z33 : Nat) (x34 : Int) (x35 : Int) (x36 : Bool) (x37 : Int) (x38 : Bool) (x39 : Int) (x40 : Int) (x41 : Option Addr) (y41 z41 : Nat) (x42 : Int) (x43 : Int) (x44 : Option Addr) (y44 z44 : Nat) (x45 : Option Addr) (y45 z45 : Nat) (x46 : Int), W = .agg #[.bool x0, .int .u8 x1, .int .u8 x2, .bool x3, .int .u8 x4, .int .i64 x5, .int .i64 x6, .int .u8 x7, .int .u8 x8, .int .u8 x9, .bool x10, .bool x11, .int .u8 x12, .int .u8 x13, .int .u8 x14, .int .u16 x15, .int .u16 x16, .int .u16 x17, .slice x18 y18 z18, .int .i64 x19, .bool x20, .int .i64 x21, .slice x22 y22 z22, .int .i64 x23, .int .i64 x24, .bool x25, .int .u8 x26, .int .i64 x27, .bool x28, .slice x29 y29 z29, .bool x30, .int .i64 x31, .slice x32 y32 z32, .slice x33 y33 z33, .int .i64 x34, .int .i64 x35, .bool x36, .int .i64 x37, .bool x38, .int .u8 x39, .int .i64 x40, .slice x41 y41 z41, .int .i64 x42, .int .i64 x43, .slice x44 y44 z44, .slice x45 y45 z45, .int .i64 x46]
/-- what Begin is to return -/
def BegGood (N : Nums) (w : World) (e : Ending) (w2 : World) : Prop :=
  ∃ W z, e = .returned (.tuple #[W, .int .i64 z]) ∧ Is47 W ∧ Below w.heap.size w w2 ∧ (z = 0 → ∀ w3, Below w2.heap.size w2 w3 → NextIs 26 #[W] (some N.ad) N.en w3) ∧ (z ≠ 0 → W = noWorkV)
theorem noWork_47 : Is47 noWorkV := ⟨_, _, _, _, _, _, _, _, _, _, _, _, _, _, _, _, _, _, _, _, _, _, _, _, _, _, _, _, _, _, _, _, _, _, _, _, _, _, _, _, _, _, _, _, _, _, _, _, _, _, _, _, _, _, _, _, _, _, _, _, _, _, _, rfl⟩

theorem wrote_grown {g : Nat} {w w' : World} (h : Wrote g w w') : w.grownBy w' (some g) :=
  ⟨h.os, h.tape, h.output, Nat.le_of_eq h.size.symm, fun k _ hk => h.other k (fun e => hk (by rw [e]))⟩
theorem wrote_own {g B size n : Nat} {e t : TypeId} {v : Value} {xs : List Value} {cs : Array Value} {w w' : World} (h : Wrote g w w') (hg : w.heap[g]? = some (.cells cs t (0, 0))) (ht : t ≠ e) (ho : w.ownsRow B e size v n xs) : w'.ownsRow B e size v n xs :=
  ho.kept (wrote_grown h) (.inr (own_type ho hg ht))
theorem wrote_els {g : Nat} {t : TypeId} {vs : List Value} {bs : List (List Int)} {cs : Array Value} {w w' : World} (h : Wrote g w w') (hg : w.heap[g]? = some (.cells cs t (0, 0))) (ht : t ≠ 5) (ho : Els w vs bs) : Els w' vs bs :=
  ho.heap fun g' cs' hg' => (h.other g' (by rintro rfl; rw [hg] at hg'; injection hg' with hg'; injection hg' with _ h2; exact ht h2)).trans hg'

theorem b8s_len {w : World} {vs : List Value} {bs : List (List Int)} (h : B8s w vs bs) : ∀ b ∈ bs, b.length ≤ 65536 := by
  intro b hb
  obtain ⟨j, hj⟩ := List.getElem?_of_mem hb
  have hl : j < vs.length := by rw [h.1]; exact (List.getElem?_eq_some_iff.1 hj).1
  obtain ⟨A, n, c, _, hu, hn⟩ := h.2 j _ b (List.getElem?_eq_getElem hl) hj
  rw [hu.1]; exact hn
theorem long_no {mx : Int} {bs : List (List Int)} (h : longB mx bs = false) : ∀ b ∈ bs, ¬ mx < (b.length : Int) := by
  intro b hb
  have := List.any_eq_false.1 h b hb
  simpa using this

set_option maxHeartbeats 2000000 in
set_option maxRecDepth 100000 in
theorem beg_good {N : Nums} (dA : Option Addr) (dc : Nat) (xs : List Int) (pA : Option Addr) (pc : Nat) (vs : List Value) (bs : List (List Int)) (w : World) (hN : N.R) (hU : U8 w dA N.dn dc xs) (hA : Sls w pA N.pn pc vs) (hb : B8s w vs bs)
    (hha : N.ha = false) (hfit : FitOk N.en N.k N.mx)
    (hc : Ret 21 #[N.P] (.int .i64 0)) (hs : Ret 60 #[N.J (.slice dA N.dn dc) (.slice pA N.pn pc), N.P] (.bool false))
    (hstr : fStr.den N.rho = false)
    (hg : ∀ w', Below w.heap.size w w' → Calls Tryz.prog 61 #[N.J (.slice dA N.dn dc) (.slice pA N.pn pc), N.P] w' fun e w2 => e = .returned (.bool false) ∧ Below w'.heap.size w' w2)
    (hlong : N.k = 1 → N.inn = false → N.pn ≤ 256 ∧ longB N.mx bs = false) (hm : N.k = 1 → N.inn = true → N.m ≤ 256) (hlen : N.len ≤ 65536) :
    Calls Tryz.prog 25 #[N.P, N.J (.slice dA N.dn dc) (.slice pA N.pn pc)] w (BegGood N w) := by
  have u1 := use_isoIn hstr
  have u2 := use_isoOut hstr
  have u3 := use_blkIn hstr
  have u4 := use_blkOut hstr
  clear hstr
  obtain ⟨⟨ra, re, rk, rm, rp, rs, rh, ro⟩, ⟨rt, rc, rv, ri, rl, rd, rn, rmm⟩, rpn⟩ := hN
  obtain ⟨ad, en, inn, k, mx, per, sp, hu, po, tg, ha, t, c, v, i, l, dn, len, z, pn, m, ok, st, gr, dz, pz⟩ := N
  dsimp only at *
  subst hha
  have hbad : ∀ {w2 : World} {er : Int} , Below w.heap.size w w2 → er ≠ 0 → BegGood ⟨ad, en, inn, k, mx, per, sp, hu, po, tg, false, t, c, v, i, l, dn, len, z, pn, m, ok, st, gr, dz, pz⟩ w (.returned (.tuple #[noWorkV, .int .i64 er])) w2 :=
    fun h he => ⟨_, _, rfl, noWork_47, h, fun h0 => absurd h0 he, fun _ => rfl⟩
  rcases hfit with ⟨rfl, rfl, hmx⟩ | ⟨hk0, hen, hmx⟩
  · refine begin_ctl ad 0 inn mx per sp hu po tg t c v i l dA dn dc len z pA pn pc m w
      (fun _ s0 s1 s2 s3 s4 s5 sA sn sc s6 s7 s8 => ∀ w3, NextIs 65 #[.agg #[.int .u8 s0, .int .u8 s1, .int .u8 s2, .int .u16 s3, .int .u16 s4, .int .u16 s5, .slice sA sn sc, .int .i64 s6, .bool s7, .int .i64 s8, .slice none 0 0, .int .i64 0, .int .i64 0]] none 0 w3)
      (fun _ _ _ _ _ _ _ _ _ _ _ _ _ _ _ _ _ _ h => h) _ (fun w2 er h he => hbad h he) (fun w2 s0 s1 s2 s3 s4 s5 sA sn sc s6 s7 s8 h hG => ⟨_, 0, rfl, ⟨_, _, _, _, _, _, _, _, _, _, _, _, _, _, _, _, _, _, _, _, _, _, _, _, _, _, _, _, _, _, _, _, _, _, _, _, _, _, _, _, _, _, _, _, _, _, _, _, _, _, _, _, _, _, _, _, _, _, _, _, _, _, _, rfl⟩, h, fun _ w3 _ => by apply pnext_ctl; exact fun w4 _ => hG w4, fun h => absurd rfl h⟩) hc hs hg ?_
    intro w' hw'
    refine (cstart t c v i l dA dn dc xs mx w' ⟨rt, rc, rv, ri, rl⟩ (hU.below hw') rd hmx).mono ?_
    rintro e w2 ⟨hb2, rfl | ⟨g, n, cap, rfl⟩⟩
    · exact ⟨hb2, 5, _, _, _, _, _, _, _, _, _, _, _, _, rfl, fun h => absurd h (by decide)⟩
    · exact ⟨hb2, 0, _, _, _, _, _, _, _, _, _, _, _, _, rfl, fun _ w3 => cnext t c v i l _ mx w3 ⟨rt, rc, rv, ri, rl⟩⟩
  by_cases hk1 : k = 1
  · subst hk1
    cases inn with
    | true =>
      obtain ⟨hp0, hm1⟩ := u1 rfl rfl
      have hm2 := hm rfl rfl
      subst hp0
      refine begin_iso ad en true mx per sp hu po tg t c v i l dA dn dc len z pA 0 pc m w
        (fun _ s0 s1 s2 sA sn sc s3 s4 => ∀ w3, NextIs 66 #[.agg #[.bool s0, .int .u8 s1, .int .i64 s2, .slice sA sn sc, .int .i64 s3, .int .i64 s4, .slice none 0 0]] none en w3)
        (fun _ _ _ _ _ _ _ _ _ _ _ _ _ _ h => h) _ (fun w2 er h he => hbad h he) (fun w2 s0 s1 s2 sA sn sc s3 s4 h hG => ⟨_, 0, rfl, ⟨_, _, _, _, _, _, _, _, _, _, _, _, _, _, _, _, _, _, _, _, _, _, _, _, _, _, _, _, _, _, _, _, _, _, _, _, _, _, _, _, _, _, _, _, _, _, _, _, _, _, _, _, _, _, _, _, _, _, _, _, _, _, _, rfl⟩, h, fun _ w3 _ => by apply pnext_iso; exact fun w4 _ => hG w4, fun h => absurd rfl h⟩) hc hs hg ?_
      intro w' hw'
      refine (pstart_in en mx m pA pc w' hen hmx ⟨hm1, hm2⟩).mono ?_
      rintro e w2 ⟨hb2, rfl⟩
      exact ⟨hb2, 0, _, _, _, _, _, _, _, _, rfl, fun _ w3 => pnext_in en mx m w3 (by simp; omega)⟩
    | false =>
      obtain ⟨hp1, hm0⟩ := u2 rfl rfl
      obtain ⟨hp2, hlb⟩ := hlong rfl rfl
      subst hm0
      refine begin_iso ad en false mx per sp hu po tg t c v i l dA dn dc len z pA pn pc 0 w
        (fun W s0 s1 s2 sA sn sc s3 s4 => s0 = false ∧ s1 = en ∧ s2 = mx ∧ s3 = 0 ∧ s4 = (pn : Int) ∧ ∃ us, W.ownsRow 0 30 1 (.slice sA sn sc) pn us ∧ Els W us bs)
        (fun W W' g cs hw hgc s0 s1 s2 sA sn sc s3 s4 h => ⟨h.1, h.2.1, h.2.2.1, h.2.2.2.1, h.2.2.2.2.1, h.2.2.2.2.2.elim fun us h => ⟨us, wrote_own hw hgc (by decide) h.1, wrote_els hw hgc (by decide) h.2⟩⟩) _ (fun w2 er h he => hbad h he) (fun w2 s0 s1 s2 sA sn sc s3 s4 h hG => ⟨_, 0, rfl, ⟨_, _, _, _, _, _, _, _, _, _, _, _, _, _, _, _, _, _, _, _, _, _, _, _, _, _, _, _, _, _, _, _, _, _, _, _, _, _, _, _, _, _, _, _, _, _, _, _, _, _, _, _, _, _, _, _, _, _, _, _, _, _, _, rfl⟩, h, fun _ w3 hb3 => ?_, fun h => absurd rfl h⟩) hc hs hg ?_
      · obtain ⟨rfl, rfl, rfl, rfl, rfl, us, ho, he⟩ := hG
        apply pnext_iso
        exact fun w4 hb4 => pnext_out _ _ 0 pn _ us bs w4 (own_below (own_below ho hb3) hb4) ((he.heap (keeps_below hb3)).heap (keeps_below hb4)) hp1 (b8s_len hb)
      intro w' hw'
      refine (pstart_out en mx pA pn pc vs bs w' (hA.below hw') (hb.below hw') hen hmx ⟨hp1, hp2⟩).mono ?_
      rintro e w2 ⟨hb2, ⟨tt, rfl, bb, hbb, hlt⟩ | ⟨vv, us, rfl, hle, ho, he⟩⟩
      · exact absurd hlt (long_no hlb bb hbb)
      · obtain ⟨g, cap, rfl, _, _⟩ := ho.form (by omega)
        exact ⟨hb2, 0, false, en, mx, some ⟨g, 0, none⟩, pn, cap, 0, pn, rfl, fun _ => ⟨rfl, rfl, rfl, rfl, rfl, us, own_base ho (Nat.zero_le _), he⟩⟩
  · have k0 : (k == 0) = false := by simpa using hk0
    have k1 : (k == 1) = false := by simpa using hk1
    cases inn with
    | true =>
      obtain ⟨hd0, hz0, hl0⟩ := u3 hk0 hk1 rfl
      subst hd0 hz0
      refine begin_blk ad en true k mx per sp hu po tg t c v i l dA 0 dc len false pA pn pc m w k0 k1
        (fun _ s0 s1 s2 s3 s4 s5 sA sn sc s6 => ∀ w3, NextIs 67 #[.agg #[.bool s0, .int .u8 s1, .int .i64 s2, .bool s3, .slice none 0 0, .bool s4, .int .i64 s5, .slice sA sn sc, .slice none 0 0, .int .i64 0, .int .i64 0, .bool s6, .int .i64 0]] none en w3)
        (fun _ _ _ _ _ _ _ _ _ _ _ _ _ _ _ _ h => h) _ (fun w2 er h he => hbad h he) (fun w2 s0 s1 s2 s3 s4 s5 sA sn sc s6 h hG => ⟨_, 0, rfl, ⟨_, _, _, _, _, _, _, _, _, _, _, _, _, _, _, _, _, _, _, _, _, _, _, _, _, _, _, _, _, _, _, _, _, _, _, _, _, _, _, _, _, _, _, _, _, _, _, _, _, _, _, _, _, _, _, _, _, _, _, _, _, _, _, rfl⟩, h, fun _ w3 _ => by apply pnext_blk _ _ _ _ _ _ _ _ _ _ _ _ _ _ _ _ _ _ _ _ _ _ _ _ _ _ _ _ _ _ _ _ _ _ _ _ _ _ _ _ _ _ _ _ _ _ _ k0 k1; exact fun w4 _ => hG w4, fun h => absurd rfl h⟩) hc hs hg ?_
      intro w' hw'
      refine (bstart_in en mx tg dA dc len w' hen hmx ⟨hl0, hlen⟩).mono ?_
      rintro e w2 ⟨hb2, rfl⟩
      exact ⟨hb2, 0, _, _, _, _, _, _, _, _, _, _, rfl, fun _ w3 => bnext_in en mx tg _ len w3 (by simp; omega)⟩
    | false =>
      have hl0 := u4 hk0 hk1 rfl
      subst hl0
      refine begin_blk ad en false k mx per sp hu po tg t c v i l dA dn dc 0 z pA pn pc m w k0 k1
        (fun W s0 s1 s2 s3 s4 s5 sA sn sc s6 => s0 = false ∧ s1 = en ∧ s2 = mx ∧ s3 = tg ∧ s4 = z ∧ s5 = 0 ∧ s6 = false ∧ ∃ g n cap us bs, sA = some ⟨g, 0, none⟩ ∧ sn = n ∧ sc = n ∧ 1 ≤ n ∧ W.ownsRow 0 30 1 (.slice (some ⟨g, 0, none⟩) n cap) n us ∧ Els W us bs ∧ ∀ b ∈ bs, b.length ≤ 65536)
        (fun W W' g cs hw hgc s0 s1 s2 s3 s4 s5 sA sn sc s6 => ?keep) _ (fun w2 er h he => hbad h he) (fun w2 s0 s1 s2 s3 s4 s5 sA sn sc s6 h hG => ⟨_, 0, rfl, ⟨_, _, _, _, _, _, _, _, _, _, _, _, _, _, _, _, _, _, _, _, _, _, _, _, _, _, _, _, _, _, _, _, _, _, _, _, _, _, _, _, _, _, _, _, _, _, _, _, _, _, _, _, _, _, _, _, _, _, _, _, _, _, _, rfl⟩, h, fun _ w3 hb3 => ?next, fun h => absurd rfl h⟩) hc hs hg ?sta
      case keep =>
        rintro ⟨a0, a1, a2, a3, a4, a5, a6, g', n', cap, us, bs, b0, b1, b2, b3, ho, he, hl⟩
        exact ⟨a0, a1, a2, a3, a4, a5, a6, g', n', cap, us, bs, b0, b1, b2, b3, wrote_own hw hgc (by decide) ho, wrote_els hw hgc (by decide) he, hl⟩
      case next =>
        obtain ⟨rfl, rfl, rfl, rfl, rfl, rfl, rfl, g', n', cap, us, bs, rfl, rfl, rfl, b3, ho, he, hl⟩ := hG
        apply pnext_blk _ _ _ _ _ _ _ _ _ _ _ _ _ _ _ _ _ _ _ _ _ _ _ _ _ _ _ _ _ _ _ _ _ _ _ _ _ _ _ _ _ _ _ _ _ _ _ k0 k1
        exact fun w4 hb4 => bnext_out _ _ _ _ 0 g' _ cap us bs w4 (by simp; omega) b3 (own_below (own_below ho hb3) hb4) ((he.heap (keeps_below hb3)).heap (keeps_below hb4)) hl
      case sta =>
        intro w' hw'
        obtain ⟨mn, rfl⟩ : ∃ mn : Nat, mx = (mn : Int) := ⟨mx.toNat, by omega⟩
        refine (bstart_out en mn tg z dA dn dc w' hen hmx (by omega) (fun w2 h2 => cut_x dA dn dc xs mn z w2 ((hU.below hw').below h2) (by omega) (by omega))).mono ?_
        rintro e w2 ⟨hb2, g, n, cap, us, bs, rfl, h1, ho, he, hl⟩
        exact ⟨hb2, 0, _, _, _, _, _, _, _, _, _, _, rfl, fun _ => ⟨rfl, rfl, rfl, rfl, rfl, rfl, rfl, g, n, cap, us, bs, rfl, rfl, rfl, h1, own_base ho (Nat.zero_le _), he, hl⟩⟩
end Go.Proofs.YthapmkbeolbmiaaGreatDoor
