/-
  What is proved here: what pipes.Begin returns for the law's isochronous jobs, exactly.
  Conditions: what the packets' cells hold.
-/
import Derived.Test.YtiajboiobjfcoaaGreatDoorIPend
import Derived.Test.YtiajboiobjfcoaaGreatDoorQGr
import Derived.Test.YtiajboiobjfcoaaGreatDoorQApp
namespace Go.Proofs.YtiajboiobjfcoaaGreatDoor
open Go.Proofs Go.RowKit Go.Sy
set_option maxRecDepth 1000000
noncomputable def ipArg : V := .agg [.int .u8 (.n 5), .int .u8 (.n 2), .bool (.eq (.x 0) (.n 1)), .int .u8 (.n 1), .int .i64 (.n 8), .int .i64 (.n 8), .int .u8 (.n 1), .int .u8 (.n 0), .int .u8 (.n 1), .bool (.lit false), .bool (.lit false)]
noncomputable def ipPc : Pc := ⟨[], [(0, 1)]⟩
theorem ip_run : allChk (fun r => litI 0 r.v) (evFn Tryz.prog kw0 12 20 21 [ipArg] (mem0 []) ipPc) = true := by kernel_rfl
def ipV (inn : Bool) : Value := .agg #[.int .u8 5, .int .u8 2, .bool inn, .int .u8 1, .int .i64 8, .int .i64 8, .int .u8 1, .int .u8 0, .int .u8 1, .bool false, .bool false]
theorem vi {c : Cx} {k : IntKind} {z : Int} (h : kMin k ≤ z ∧ z ≤ kMax k) : VR c (.int k (.n z)) (.int k z) := VR.int.2 ⟨rfl, h⟩
theorem ip_check (inn : Bool) : Ret 21 #[ipV inn] (.int .i64 0) := by
 intro w
 have hlaid : LaidAs (fun _ => 0) w [] := fun _ x hx => nomatch hx
 let ρ : Nat → Int := fun _ => b2i inn
 have hq : PcR ρ ipPc := by
  refine ⟨fun c hc => by simp [ipPc] at hc, ?_⟩
  intro i lo hi h
  match i, h with
  | 0, h => obtain ⟨rfl, rfl⟩ := Prod.mk.inj (Option.some.inj (show some ((0 : Int), (1 : Int)) = some (lo, hi) from h)); exact b2i_r inn
  | i + 1, h => exact absurd (show (none : Option (Int × Int)) = some (lo, hi) from h) (by simp)
 have hV : VRs (cx0 (fun _ => 0) ρ) [ipArg] #[ipV inn].toList :=
  VRs.cons (VR.agg.2 ⟨_, rfl, VRs.cons (vi (by decide)) (VRs.cons (vi (by decide)) (VRs.cons (vr_bool rfl) (VRs.cons (vi (by decide)) (VRs.cons (vi (by decide)) (VRs.cons (vi (by decide)) (VRs.cons (vi (by decide))
   (VRs.cons (vi (by decide)) (VRs.cons (vi (by decide)) (VRs.cons (VR.bool.2 rfl) (VRs.cons (VR.bool.2 rfl) VRs.nil))))))))))⟩) VRs.nil
 refine (con_run plain kw0_ok hq hV hlaid ip_run).mono ?_
 rintro e w' ⟨r, c', y, hc, _, rfl, hv, _, hbel⟩
 exact ⟨by rw [litI_ok hc hv], hbel⟩
def ipN (inn : Bool) (pn : Nat) (m : Int) (pz : Bool) : Nums := ⟨5, 2, inn, 1, 8, 8, 1, 0, 1, false, false, 0, 0, 0, 0, 0, 0, 0, false, pn, m, true, false, false, true, pz⟩
theorem ip_R (inn : Bool) (pn : Nat) (m : Int) (pz : Bool) (hp : pn ≤ 30) (hm : 0 ≤ m ∧ m ≤ 30) : (ipN inn pn m pz).R := by
 unfold Nums.R PipeR JobR ipN
 dsimp only
 omega
theorem ip_str (inn : Bool) (pn : Nat) (m : Int) (pz : Bool) (h : (inn = true ∧ pn = 0 ∧ 1 ≤ m) ∨ (inn = false ∧ 1 ≤ pn ∧ m = 0)) : fStr.den (ipN inn pn m pz).rho = false := by
 have r2 : (ipN inn pn m pz).rho 2 = b2i inn := rfl
 have r3 : (ipN inn pn m pz).rho 3 = 1 := rfl
 have r11 : (ipN inn pn m pz).rho 11 = 0 := rfl
 have r12 : (ipN inn pn m pz).rho 12 = 0 := rfl
 have r13 : (ipN inn pn m pz).rho 13 = 0 := rfl
 have r14 : (ipN inn pn m pz).rho 14 = 0 := rfl
 have r15 : (ipN inn pn m pz).rho 15 = 0 := rfl
 have r16 : (ipN inn pn m pz).rho 16 = 0 := rfl
 have r17 : (ipN inn pn m pz).rho 17 = 0 := rfl
 have r18 : (ipN inn pn m pz).rho 18 = 0 := rfl
 have r19 : (ipN inn pn m pz).rho 19 = (pn : Int) := rfl
 have r20 : (ipN inn pn m pz).rho 20 = m := rfl
 rcases h with ⟨rfl, rfl, h⟩ | ⟨rfl, h, rfl⟩
 all_goals
  simp [fStr, fS, fC, fD, fOut, fIn, fP, fI, fN, fT, fStream, nz, BF.den, B.den, E.den, r2, r3, r11, r12, r13, r14, r15, r16, r17, r18, r19, r20, b2i]
  try omega
theorem ip_lim (m : Int) (pz : Bool) (hm : m ≤ 30) : fLim.den (ipN true 0 m pz).rho = false := by
 have r16 : (ipN true 0 m pz).rho 16 = 0 := rfl
 have r17 : (ipN true 0 m pz).rho 17 = 0 := rfl
 have r19 : (ipN true 0 m pz).rho 19 = 0 := rfl
 have r20 : (ipN true 0 m pz).rho 20 = m := rfl
 simp [fLim, BF.den, B.den, E.den, r16, r17, r19, r20]
 omega
def TyOn (w : World) (i : Nat) : Prop := ∃ cs t, w.heap[i]? = some (.cells cs t (0, 0)) ∧ (t = 5 ∨ t = 23)
theorem pk_own {w : World} {PA : Option Addr} {n c : Nat} {us : List Value} {bs : List (List Int)} (ho : w.ownsRow 0 23 1 (.slice PA n c) n us) (he : Els w us bs) (hl : ∀ b ∈ bs, b.length ≤ 8) : PkOn (TyOn w) w PA n c bs := by
 have hul : us.length = n := by have := ho.1; omega
 refine ⟨us, ⟨hul, ?_, ?_⟩, ⟨he.1, fun j v b hj hb => ?_⟩, ?_, fun j A m c' hj => ?_⟩
 ·rcases ho.2 with ⟨h, h0⟩ | ⟨g, cap, cur, h, _, _, hc, _⟩
  ·injection h with _ _ h3; omega
  ·injection h with _ _ h3; omega
 ·rcases id ho.2 with ⟨h, h0⟩ | ⟨g, cap, cur, h, _, hh, hc, _⟩
  ·injection h with h1 h2 h3
   exact .inl ⟨h1, h2, h3⟩
  ·injection h with h1 h2 h3
   subst h1 h3
   refine .inr ⟨_, rfl, fun j v hj => ?_⟩
   have hjl := (List.getElem?_eq_some_iff.1 hj).1
   rw [show (⟨g, 0, none⟩ : Addr).add j = ⟨g, j, none⟩ by unfold Addr.add; split <;> simp_all]
   exact (ho.cellAt j (by omega)).trans (by first | exact hj | rw [← hj])
 ·obtain ⟨g, c', e, hf⟩ := he.2 j v b hj hb
  exact ⟨_, _, _, e, hf.u8, by have := hl b (List.mem_of_getElem? hb); omega⟩
 ·rcases ho.2 with ⟨_, h0⟩ | ⟨g, cap, cur, h, _, hh, _⟩
  ·exact .inl h0
  ·injection h with h1 _ _
   exact .inr ⟨_, h1, cur, _, hh, .inr rfl⟩
 ·have hjl : j < bs.length := by rw [← he.1]; exact (List.getElem?_eq_some_iff.1 hj).1
  obtain ⟨g, c2, e, hf⟩ := he.2 j _ _ hj (List.getElem?_eq_getElem hjl)
  injection e with e1 e2 e3
  obtain ⟨_, _, _, cs, h4, _⟩ := hf
  exact .inr ⟨_, e1, cs, 5, h4, .inl rfl⟩
def BegOut (w : World) (bs : List (List Int)) (e : Ending) (w' : World) : Prop :=
 ∃ PA pc, e = .returned (.tuple #[.agg (isoV false PA bs.length pc 0 bs.length none 0 0 none 0 0 0), .int .i64 0]) ∧ Below w.heap.size w w' ∧ PkOn (TyOn w') w' PA bs.length pc bs
theorem wrote_ty {g : Nat} {t : TypeId} {cs : Array Value} {w w' : World} {i : Nat} (h : Wrote g w w') (hg : w.heap[g]? = some (.cells cs t (0, 0))) (ht : t ≠ 5 ∧ t ≠ 23) (hi : TyOn w i) : i ≠ g := by
 rintro rfl
 obtain ⟨cs', t', h1, h2⟩ := hi
 rw [hg] at h1
 injection h1 with h1
 injection h1 with _ h1
 rcases h2 with h2 | h2
 ·exact ht.1 (h1.trans h2)
 ·exact ht.2 (h1.trans h2)
set_option maxHeartbeats 2000000 in
theorem beg_out (pA : Option Addr) (n pc : Nat) (vs : List Value) (bs : List (List Int)) (w : World) (hlen : bs.length = n) (hP : Pl pA bs.length) (hA : Sls w pA bs.length pc vs) (hb : B8s w vs bs) (hn : 1 ≤ bs.length ∧ bs.length ≤ 30) (hl : ∀ b ∈ bs, b.length ≤ 8) :
  Calls Tryz.prog 10 #[ipV false, .agg #[.int .u8 0, .int .u8 0, .int .u16 0, .int .u16 0, .int .u16 0, .slice none 0 0, .int .i64 0, .bool false, .slice pA n pc, .int .i64 0]] w (BegOut w bs) := by
 subst hlen
 have hlong : longB 8 bs = false := by
  unfold longB
  rw [List.any_eq_false]
  intro b hb
  have := hl b hb
  simp; omega
 have hstr := strange_ret (D := .slice none 0 0) (P := .slice pA bs.length pc) (ip_R false bs.length 0 pA.isNone (by omega) (by omega)) (ctx (ip_R false bs.length 0 pA.isNone (by omega) (by omega)) ⟨by show (0 : Nat) ≤ _; omega, 0, .inr ⟨rfl, none, rfl, rfl⟩⟩ (slz_of hP (by show bs.length ≤ _; omega))).choose_spec
 rw [ip_str false bs.length 0 pA.isNone (.inr ⟨rfl, hn.1, rfl⟩)] at hstr
 refine begin_iso 5 2 false 8 8 1 0 1 false 0 0 0 0 0 none 0 0 0 false pA bs.length pc 0 w
  (fun W s0 s1 s2 sA sn sc s3 s4 => s0 = false ∧ s1 = 2 ∧ s2 = 8 ∧ s3 = 0 ∧ s4 = (bs.length : Int) ∧ sn = bs.length ∧ PkOn (TyOn W) W sA bs.length sc bs)
  (fun W W' g cs hw hgc s0 s1 s2 sA sn sc s3 s4 h => ⟨h.1, h.2.1, h.2.2.1, h.2.2.2.1, h.2.2.2.2.1, h.2.2.2.2.2.1, ?_⟩) False _ (fun w2 er h he hf => hf.elim) (fun w2 s0 s1 s2 sA sn sc s3 s4 h hG => ?_) (ip_check false) hstr ?_ ?_
 ·have hne : ∀ i, TyOn W i → W'.heap[i]? = W.heap[i]? := fun i hi => hw.other i (wrote_ty hw hgc (by decide) hi)
  exact (h.2.2.2.2.2.2.on hne).wide fun i hi => by
   obtain ⟨cs', t', h1, h2⟩ := id hi
   exact ⟨cs', t', (hne i hi).trans h1, h2⟩
 ·obtain ⟨rfl, rfl, rfl, rfl, rfl, rfl, hpk⟩ := hG
  exact ⟨sA, sc, rfl, h, hpk⟩
 ·intro w' hw'
  have := great_bare 5 2 false 1 8 8 1 0 1 false false 0 0 0 0 0 none 0 false pA bs.length pc vs bs w' (hA.below hw') (hb.below hw') (by omega)
  rw [hlong] at this
  exact this
 ·intro w' hw'
  refine (pstart_out 2 8 pA bs.length pc vs bs w' (hA.below hw') (hb.below hw') (by omega) (by omega) (by omega)).mono ?_
  rintro e w2 ⟨hb2, ⟨tt, rfl, bb, hbb, hlt⟩ | ⟨vv, us, rfl, hle, ho, he⟩⟩
  ·have := hl bb hbb; omega
  ·obtain ⟨g, cap, rfl, _, _⟩ := ho.form (by omega)
   exact ⟨hb2, 0, false, 2, 8, some ⟨g, 0, none⟩, bs.length, cap, 0, bs.length, rfl, fun _ => ⟨rfl, rfl, rfl, rfl, rfl, rfl, pk_own (own_base ho (Nat.zero_le _)) he hl⟩, fun h => absurd rfl h⟩
def BegIn (w : World) (m : Nat) (e : Ending) (w' : World) : Prop :=
 e = .returned (.tuple #[.agg (isoV true none 0 0 (m : Int) m none 0 0 none 0 0 0), .int .i64 0]) ∧ Below w.heap.size w w'
set_option maxHeartbeats 2000000 in
theorem beg_in (m : Nat) (w : World) (hm : 1 ≤ m ∧ m ≤ 30) :
  Calls Tryz.prog 10 #[ipV true, .agg #[.int .u8 0, .int .u8 0, .int .u16 0, .int .u16 0, .int .u16 0, .slice none 0 0, .int .i64 0, .bool false, .slice none 0 0, .int .i64 (m : Int)]] w (BegIn w m) := by
 have hR := ip_R true 0 (m : Int) true (by omega) (by omega)
 have hctx := (ctx (D := .slice none 0 0) (P := .slice none 0 0) hR ⟨by show (0 : Nat) ≤ _; omega, 0, .inr ⟨rfl, none, rfl, rfl⟩⟩ ⟨by show (0 : Nat) ≤ _; omega, 0, .inr ⟨rfl, none, rfl, rfl⟩⟩).choose_spec
 have hstr := strange_ret hR hctx
 rw [ip_str true 0 (m : Int) true (.inl ⟨rfl, rfl, by omega⟩)] at hstr
 have hgr := great_ret hR hctx rfl
 rw [ip_lim (m : Int) true (by omega)] at hgr
 refine begin_iso 5 2 true 8 8 1 0 1 false 0 0 0 0 0 none 0 0 0 false none 0 0 (m : Int) w
  (fun _ s0 s1 s2 sA sn sc s3 s4 => s0 = true ∧ s1 = 2 ∧ s2 = 8 ∧ s3 = (m : Int) ∧ s4 = (m : Int) ∧ sA = none ∧ sn = 0 ∧ sc = 0)
  (fun _ _ _ _ _ _ _ _ _ _ _ _ _ _ h => h) False _ (fun w2 er h he hf => hf.elim) (fun w2 s0 s1 s2 sA sn sc s3 s4 h hG => ?_) (ip_check true) hstr (fun w' _ => hgr w') ?_
 ·obtain ⟨rfl, rfl, rfl, rfl, rfl, rfl, rfl, rfl⟩ := hG
  exact ⟨rfl, h⟩
 ·intro w' hw'
  refine (pstart_in 2 8 (m : Int) none 0 w' (by omega) (by omega) (by omega)).mono ?_
  rintro e w2 ⟨hb2, rfl⟩
  exact ⟨hb2, 0, _, _, _, _, _, _, _, _, rfl, fun _ => ⟨rfl, rfl, rfl, rfl, rfl, rfl, rfl, rfl⟩, fun h => absurd rfl h⟩
end Go.Proofs.YtiajboiobjfcoaaGreatDoor
