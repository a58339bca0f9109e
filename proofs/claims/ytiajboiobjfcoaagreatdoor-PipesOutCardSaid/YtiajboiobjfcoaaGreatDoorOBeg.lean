/-
  What is proved here: what pipes.Begin returns for the law's streams OUT, exactly.
  Conditions: what the data's cells hold.
-/
import Derived.Test.YtiajboiobjfcoaaGreatDoorOCut
import Derived.Test.YtiajboiobjfcoaaGreatDoorOPans
import Derived.Test.YtiajboiobjfcoaaGreatDoorICalls
namespace Go.Proofs.YtiajboiobjfcoaaGreatDoor
open Go.Proofs Go.RowKit Go.Sy
set_option maxRecDepth 1000000
attribute [local go_sem] lt2 lt3 lt4 lt5
noncomputable def spArg (k per : Int) : V := .agg [.int .u8 (.n 5), .int .u8 (.n 2), .bool (.eq (.x 0) (.n 1)), .int .u8 (.n k), .int .i64 (.n 8), .int .i64 (.n per), .int .u8 (.n 1), .int .u8 (.n 0), .int .u8 (.n 1), .bool (.eq (.x 1) (.n 1)), .bool (.lit false)]
noncomputable def spPc : Pc := ⟨[], [(0, 1), (0, 1)]⟩
theorem sp_run2 : allChk (fun r => litI 0 r.v) (evFn Tryz.prog kw0 12 20 21 [spArg 2 0] (mem0 []) spPc) = true := by kernel_rfl
theorem sp_run3 : allChk (fun r => litI 0 r.v) (evFn Tryz.prog kw0 12 20 21 [spArg 3 8] (mem0 []) spPc) = true := by kernel_rfl
def spC (k per : Int) (inn tg ha : Bool) : Array Value := #[.int .u8 5, .int .u8 2, .bool inn, .int .u8 k, .int .i64 8, .int .i64 per, .int .u8 1, .int .u8 0, .int .u8 1, .bool tg, .bool ha]
def SpK (k per : Int) : Prop := (k = 2 ∧ per = 0) ∨ (k = 3 ∧ per = 8)
theorem sp_check {k per : Int} (hk : SpK k per) (inn tg : Bool) : Ret 21 #[.agg (spC k per inn tg false)] (.int .i64 0) := by
 intro w
 have hlaid : LaidAs (fun _ => 0) w [] := fun _ x hx => nomatch hx
 let ρ : Nat → Int := fun j => if j = 0 then b2i inn else b2i tg
 have hq : PcR ρ spPc := by
  refine ⟨fun c hc => by simp [spPc] at hc, ?_⟩
  intro i lo hi h
  match i, h with
  | 0, h => obtain ⟨rfl, rfl⟩ := Prod.mk.inj (Option.some.inj (show some ((0 : Int), (1 : Int)) = some (lo, hi) from h)); exact b2i_r inn
  | 1, h => obtain ⟨rfl, rfl⟩ := Prod.mk.inj (Option.some.inj (show some ((0 : Int), (1 : Int)) = some (lo, hi) from h)); exact b2i_r tg
  | i + 2, h => exact absurd (show (none : Option (Int × Int)) = some (lo, hi) from h) (by simp)
 have hV : VRs (cx0 (fun _ => 0) ρ) [spArg k per] #[.agg (spC k per inn tg false)].toList :=
  VRs.cons (VR.agg.2 ⟨_, rfl, VRs.cons (vi (by decide)) (VRs.cons (vi (by decide)) (VRs.cons (vr_bool rfl) (VRs.cons (vi (by rcases hk with ⟨rfl, rfl⟩ | ⟨rfl, rfl⟩ <;> decide)) (VRs.cons (vi (by decide)) (VRs.cons (vi (by rcases hk with ⟨rfl, rfl⟩ | ⟨rfl, rfl⟩ <;> decide)) (VRs.cons (vi (by decide))
   (VRs.cons (vi (by decide)) (VRs.cons (vi (by decide)) (VRs.cons (vr_bool rfl) (VRs.cons (VR.bool.2 rfl) VRs.nil))))))))))⟩) VRs.nil
 rcases hk with ⟨rfl, rfl⟩ | ⟨rfl, rfl⟩
 ·refine (con_run plain kw0_ok hq hV hlaid sp_run2).mono ?_
  rintro e w' ⟨r, c', y, hc, _, rfl, hv, _, hbel⟩
  exact ⟨by rw [litI_ok hc hv], hbel⟩
 ·refine (con_run plain kw0_ok hq hV hlaid sp_run3).mono ?_
  rintro e w' ⟨r, c', y, hc, _, rfl, hv, _, hbel⟩
  exact ⟨by rw [litI_ok hc hv], hbel⟩
def spN (k per : Int) (inn tg : Bool) (dn : Nat) (len : Int) (z dz : Bool) : Nums := ⟨5, 2, inn, k, 8, per, 1, 0, 1, tg, false, 0, 0, 0, 0, 0, dn, len, z, 0, 0, true, false, false, dz, true⟩
theorem sp_R {k per : Int} (hk : SpK k per) (inn tg : Bool) (dn : Nat) (len : Int) (z dz : Bool) (hp : dn ≤ 300) (hm : 0 ≤ len ∧ len ≤ 300) : (spN k per inn tg dn len z dz).R := by
 unfold Nums.R PipeR JobR spN
 dsimp only
 rcases hk with ⟨rfl, rfl⟩ | ⟨rfl, rfl⟩ <;> omega
theorem sp_str {k per : Int} (hk : SpK k per) (inn tg : Bool) (dn : Nat) (len : Int) (z dz : Bool) (h : (inn = true ∧ dn = 0 ∧ z = false ∧ 0 ≤ len) ∨ (inn = false ∧ len = 0)) : fStr.den (spN k per inn tg dn len z dz).rho = false := by
 have r2 : (spN k per inn tg dn len z dz).rho 2 = b2i inn := rfl
 have r3 : (spN k per inn tg dn len z dz).rho 3 = k := rfl
 have r11 : (spN k per inn tg dn len z dz).rho 11 = 0 := rfl
 have r12 : (spN k per inn tg dn len z dz).rho 12 = 0 := rfl
 have r13 : (spN k per inn tg dn len z dz).rho 13 = 0 := rfl
 have r14 : (spN k per inn tg dn len z dz).rho 14 = 0 := rfl
 have r15 : (spN k per inn tg dn len z dz).rho 15 = 0 := rfl
 have r16 : (spN k per inn tg dn len z dz).rho 16 = (dn : Int) := rfl
 have r17 : (spN k per inn tg dn len z dz).rho 17 = len := rfl
 have r18 : (spN k per inn tg dn len z dz).rho 18 = b2i z := rfl
 have r19 : (spN k per inn tg dn len z dz).rho 19 = 0 := rfl
 have r20 : (spN k per inn tg dn len z dz).rho 20 = 0 := rfl
 have hk0 : k = 2 ∨ k = 3 := hk.imp (·.1) (·.1)
 rcases hk0 with rfl | rfl
 all_goals
  rcases h with ⟨rfl, rfl, rfl, h⟩ | ⟨rfl, rfl⟩
  all_goals
   simp [fStr, fS, fC, fD, fOut, fIn, fP, fI, fN, fT, fStream, nz, BF.den, B.den, E.den, r2, r3, r11, r12, r13, r14, r15, r16, r17, r18, r19, r20, b2i]
   try omega
theorem sp_lim {k per : Int} (inn tg : Bool) (dn : Nat) (len : Int) (z dz : Bool) (hp : dn ≤ 300) (hm : 0 ≤ len ∧ len ≤ 300) : fLim.den (spN k per inn tg dn len z dz).rho = false := by
 have r16 : (spN k per inn tg dn len z dz).rho 16 = (dn : Int) := rfl
 have r17 : (spN k per inn tg dn len z dz).rho 17 = len := rfl
 have r19 : (spN k per inn tg dn len z dz).rho 19 = 0 := rfl
 have r20 : (spN k per inn tg dn len z dz).rho 20 = 0 := rfl
 simp [fLim, BF.den, B.den, E.den, r16, r17, r19, r20]
 omega
set_option maxHeartbeats 4000000 in
theorem bst_out (en mx : Int) (tg z : Bool) (A : Option Addr) (n c : Nat) (L : List (List Int)) (w : World) (h1 : 1 ≤ en ∧ en ≤ 15) (h2 : 1 ≤ mx ∧ mx ≤ 1024) (hn : n ≤ 300)
  (hcut : ∀ w', Below w.heap.size w w' → Calls Tryz.prog 56 #[.slice A n c, .int .i64 mx, .bool z] w' (CutX w' L)) :
  Calls Tryz.prog 26 #[.agg #[.bool false, .int .u8 en, .int .i64 mx, .bool tg, .slice A n c, .bool z, .int .i64 0]] w fun e w' => Below w.heap.size w w' ∧
   ∃ g m cap us, e = .returned (.tuple #[.agg #[.bool false, .int .u8 en, .int .i64 mx, .bool tg, .slice none 0 0, .bool z, .int .i64 0, .slice (some ⟨g, 0, none⟩) m m, .slice none 0 0, .int .i64 0, .int .i64 0, .bool false, .int .i64 0], .int .i64 0]) ∧
    m = L.length ∧ w'.ownsRow w.heap.size 23 1 (.slice (some ⟨g, 0, none⟩) m cap) m us ∧ Els w' us L ∧ FarV w.heap.size us := by
 have d1 : decide (en < 1) = false := by simp; omega
 have d2 : decide (15 < en) = false := by simp; omega
 have d3 : decide (mx < 1) = false := by simp; omega
 have d4 : decide (1024 < mx) = false := by simp; omega
 have d5 : decide ((65536 : Int) < (n : Int)) = false := by simp; omega
 have hb : ∀ a b c, Below w.heap.size w (((w.alloc a).alloc b).alloc c) := fun a b c => (((Below.refl w.heap.size w).alloc (Nat.le_refl _) a).alloc (by simp) b).alloc (by simp; omega) c
 go_enter Tryz.func26, Tryz.ntmps26
 go_wp2_with fail
 refine (hcut _ (hb _ _ _)).mono ?_
 rintro e w1 ⟨hb1, g, m, cap, us, rfl, hm, hown, hel, hfv⟩
 have hfv : FarV w.heap.size us := fun v hv => by
  obtain ⟨g, n, c, e, h⟩ := hfv v hv
  exact ⟨g, n, c, e, by simp at h; omega⟩
 have HFV := Lib.hid hfv
 clear hfv
 have hX1 := heap_below (alloc3_1 w _ _ _) hb1
 have hX2 := heap_below (alloc3_2 w _ _ _) hb1
 have hw1 := (hb _ _ _).trans (hb1.mono (by simp; omega))
 have HM := Lib.hid hm
 clear hb1 hb hcut hm
 have z7 := cell_of hX2 7
 have f7 := frozen_of hX2 7
 have hS := setCell_heap hX2 7 (.slice (some ⟨g, 0, none⟩) m m)
 have hS1 := (Wrote.refl (w.heap.size + 1 + 1) w1).setCell 7 (.slice (some ⟨g, 0, none⟩) m m)
 have hU1 := (hS1.other (w.heap.size + 1) (by omega)).trans hX1
 go_wp2_with (guard_target =~ wpList _ _ _ (_ :: _) _ _; first
  | refine wpList_load_row rfl (.tmp 4) 47 rfl (w.heap.size + 1 + 1) 47 _ _ rfl hS Tryz.underlying47 rfl (by kernel_rfl) ?_
  | (refine wpList_store_row rfl (.tmp 2) (.tmp 86) 47 rfl (w.heap.size + 1) 0 47 _ _ #[.bool false, .int .u8 en, .int .i64 mx, .bool tg, .slice none 0 0, .bool z, .int .i64 0, .slice (some ⟨g, 0, none⟩) m m, .slice none 0 0, .int .i64 0, .int .i64 0, .bool false, .int .i64 0] rfl rfl hU1 (by kernel_rfl) (by simp) rfl rfl ?_; intro w4 hZ1 hW4))
 have hty : ∀ (g : Nat) cs, w1.heap[g]? = some (.cells cs 5 (0, 0)) → w4.heap[g]? = some (.cells cs 5 (0, 0)) := by
  intro g' cs hg
  have e1 : g' ≠ w.heap.size + 1 + 1 := by rintro rfl; rw [hX2] at hg; simp at hg
  have e2 : g' ≠ w.heap.size + 1 := by rintro rfl; rw [hX1] at hg; simp at hg
  exact (hW4.other _ e2).trans ((hS1.other _ e1).trans hg)
 refine ret_cell _ _ _ _ _ rfl rfl rfl hZ1 Tryz.underlying47 rfl (by kernel_rfl) rfl ⟨(hw1.trans (hS1.below (by omega))).trans (hW4.below (by omega)), g, m, cap, us, rfl, HM.out, ?_, hel.heap hty, HFV.out⟩
 have hown2 := own_base hown (B' := w.heap.size + 1 + 1 + 1) (by simp)
 exact own_base (hW4.own (hS1.own hown2 (by omega)) (by omega)) (by omega)
def BegStr (k per : Int) (tg z : Bool) (L : List (List Int)) (w : World) (e : Ending) (w' : World) : Prop :=
 ∃ LA lc, e = .returned (.tuple #[.agg (strV 5 2 false k 8 per 1 0 1 tg false tg z 0 LA L.length lc none 0 0 0 0 false 0 none 0 0 0), .int .i64 0]) ∧ Below w.heap.size w w' ∧ Pl LA L.length ∧ PkOn (fun i => w.heap.size ≤ i ∧ TyOn w' i) w' LA L.length lc L
theorem cutL_le (z : Bool) (b : List Int) : ∀ p ∈ cutL 8 z b, p.length ≤ 8 := cutF_le 8 (by omega) _ _ _ (Nat.le_refl _)
theorem cutL_pos (z : Bool) (b : List Int) : 1 ≤ (cutL 8 z b).length := cutF_pos ..
theorem pk_own2 {w : World} {B n c : Nat} {PA : Option Addr} {us : List Value} {bs : List (List Int)} (ho : w.ownsRow B 23 1 (.slice PA n c) n us) (he : Els w us bs) (hl : ∀ b ∈ bs, b.length ≤ 8) (hf : FarV B us) : PkOn (fun i => B ≤ i ∧ TyOn w i) w PA n c bs := by
 have hul : us.length = n := by have := ho.1; omega
 refine ⟨us, ⟨hul, ?_, ?_⟩, ⟨he.1, fun j v b hj hb => ?_⟩, ?_, fun j A m c' hj => ?_⟩
 ·rcases ho.2 with ⟨h, h0⟩ | ⟨g, cap, cur, h, _, _, hc, _⟩
  ·injection h with _ _ h3; omega
  ·injection h with _ _ h3; omega
 ·rcases id ho.2 with ⟨h, h0⟩ | ⟨g, cap, cur, h, _, hh, hc, _⟩
  ·injection h with h1 h2 h3
   exact .inl ⟨h1, h2, h3⟩
  ·injection h with h1 h2 h3
   subst h1 h3
   refine .inr ⟨_, rfl, fun j v hj => ?_⟩
   have hjl := (List.getElem?_eq_some_iff.1 hj).1
   rw [show (⟨g, 0, none⟩ : Addr).add j = ⟨g, j, none⟩ by unfold Addr.add; split <;> simp_all]
   exact (ho.cellAt j (by omega)).trans (by first | exact hj | rw [← hj])
 ·obtain ⟨g, c', e, hf⟩ := he.2 j v b hj hb
  exact ⟨_, _, _, e, hf.u8, by have := hl b (List.mem_of_getElem? hb); omega⟩
 ·rcases ho.2 with ⟨_, h0⟩ | ⟨g, cap, cur, h, hg, hh, _⟩
  ·exact .inl h0
  ·injection h with h1 _ _
   exact .inr ⟨_, h1, hg, cur, _, hh, .inr rfl⟩
 ·have hjl : j < bs.length := by rw [← he.1]; exact (List.getElem?_eq_some_iff.1 hj).1
  obtain ⟨g, c2, e, hf'⟩ := he.2 j _ _ hj (List.getElem?_eq_getElem hjl)
  injection e with e1 e2 e3
  obtain ⟨g', n', c3, e', hB⟩ := hf _ (List.mem_of_getElem? hj)
  injection e' with e4 _ _
  obtain ⟨_, _, _, cs, h4, _⟩ := hf'
  refine .inr ⟨_, e1, ?_, cs, 5, h4, .inl rfl⟩
  rw [e4] at e1
  injection e1 with e1
  injection e1 with e1
  show B ≤ g
  omega
set_option maxHeartbeats 2000000 in
theorem beg_str {k per : Int} (hk : SpK k per) (tg z : Bool) (A : Option Addr) (n c : Nat) (xs : List Int) (w : World) (hU : U8 w A n c xs) (hPl : Pl A n) (hn : n ≤ 300) :
  Calls Tryz.prog 10 #[.agg (spC k per false tg false), .agg #[.int .u8 0, .int .u8 0, .int .u16 0, .int .u16 0, .int .u16 0, .slice A n c, .int .i64 0, .bool z, .slice none 0 0, .int .i64 0]] w (BegStr k per tg z (cutL 8 z xs) w) := by
 have hR := sp_R hk false tg n 0 z A.isNone hn (by omega)
 have hctx := (ctx (D := .slice A n c) (P := .slice none 0 0) hR (slz_of hPl (by omega)) ⟨by show (0 : Nat) ≤ _; omega, 0, .inr ⟨rfl, none, rfl, rfl⟩⟩).choose_spec
 have hstr := strange_ret hR hctx
 rw [sp_str hk false tg n 0 z A.isNone (.inr ⟨rfl, rfl⟩)] at hstr
 have hgr := great_ret hR hctx rfl
 rw [sp_lim false tg n 0 z A.isNone hn (by omega)] at hgr
 have hchk := sp_check hk false tg
 unfold spC at hchk ⊢
 refine begin_blk 5 2 false k 8 per 1 0 1 tg 0 0 0 0 0 A n c 0 z none 0 0 0 w (by rcases hk with ⟨rfl, _⟩ | ⟨rfl, _⟩ <;> rfl) (by rcases hk with ⟨rfl, _⟩ | ⟨rfl, _⟩ <;> rfl)
  (fun W s0 s1 s2 s3 s4 s5 sA sn sc s6 => s0 = false ∧ s1 = 2 ∧ s2 = 8 ∧ s3 = tg ∧ s4 = z ∧ s5 = 0 ∧ s6 = false ∧ sn = (cutL 8 z xs).length ∧ Pl sA (cutL 8 z xs).length ∧ PkOn (fun i => w.heap.size ≤ i ∧ TyOn W i) W sA (cutL 8 z xs).length sc (cutL 8 z xs))
  (fun W W' g cs hw hgc s0 s1 s2 s3 s4 s5 sA sn sc s6 h => ⟨h.1, h.2.1, h.2.2.1, h.2.2.2.1, h.2.2.2.2.1, h.2.2.2.2.2.1, h.2.2.2.2.2.2.1, h.2.2.2.2.2.2.2.1, h.2.2.2.2.2.2.2.2.1, ?_⟩) False _ (fun w2 er h he hf => hf.elim) (fun w2 s0 s1 s2 s3 s4 s5 sA sn sc s6 h hG => ?_) hchk hstr (fun w' _ => hgr w') ?_
 ·have hne : ∀ i, TyOn W i → W'.heap[i]? = W.heap[i]? := fun i hi => hw.other i (wrote_ty hw hgc (by decide) hi)
  exact (h.2.2.2.2.2.2.2.2.2.on fun i hi => hne i hi.2).wide fun i hi => by
   obtain ⟨cs', t', h1, h2⟩ := id hi.2
   exact ⟨hi.1, cs', t', (hne i hi.2).trans h1, h2⟩
 ·obtain ⟨rfl, rfl, rfl, rfl, rfl, rfl, rfl, rfl, hpl, hpk⟩ := hG
  exact ⟨sA, sc, rfl, h, hpl, hpk⟩
 ·intro w' hw'
  refine (bst_out 2 8 tg z A n c (cutL 8 z xs) w' (by omega) (by omega) hn (fun w2 hw2 => cut_N A n c xs 8 z w2 (hU.below (hw'.trans (hw2.mono hw'.size))) (by omega) (by omega))).mono ?_
  rintro e w2 ⟨hb2, g, m, cap, us, rfl, rfl, ho, he, hfv⟩
  refine ⟨hb2, 0, false, 2, 8, tg, z, 0, some ⟨g, 0, none⟩, _, _, false, rfl, fun _ => ⟨rfl, rfl, rfl, rfl, rfl, rfl, rfl, rfl, .inr ⟨_, _, rfl⟩, ?_⟩, fun h => absurd rfl h⟩
  obtain ⟨vs, h1, h2, h3, h4⟩ := pk_own2 ho he (cutL_le z xs) hfv
  obtain ⟨s1, s2, s3⟩ := h1
  exact ⟨vs, ⟨s1, Nat.le_refl _, s3.imp (fun h => ⟨h.1, h.2.1, h.2.1⟩) id⟩, h2, h3.imp id fun ⟨a, e, h⟩ => ⟨a, e, Nat.le_trans hw'.size h.1, h.2⟩, fun j A n c hj => (h4 j A n c hj).imp id fun ⟨a, e, h⟩ => ⟨a, e, Nat.le_trans hw'.size h.1, h.2⟩⟩
end Go.Proofs.YtiajboiobjfcoaaGreatDoor
