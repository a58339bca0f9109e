/-
  What is proved here: what pipes.Begin returns for the law's streams OUT, exactly.
  Conditions: what the data's cells hold.
  What is proved here: what pipes.Begin returns for the law's stream IN, exactly.
  Conditions: none.
-/
import Derived.RangeFuncBox
import Derived.RangeFuncNested
import Derived.RangeFuncCalls
import Derived.RangeFuncKeeps
import Derived.RangeFuncLeaves
import Derived.Shelf.Abstract
import Derived.Shelf.RegionOpen
import Derived.WalkKit
import Derived.OwnWalkIn
import Derived.TacticsInMore
import Derived.LoopNIn
import Derived.LoopIn
import Derived.Test.YtiajboiobjfcoaaGreatDoorOAns
import Derived.Test.YtiajboiobjfcoaaGreatDoorIIn
import Derived.Maps.AppendAt
import Derived.Test.YtiajboiobjfcoaaGreatDoorOPans
import Derived.Test.YtiajboiobjfcoaaGreatDoorOR14
namespace Go.Proofs.YtiajboiobjfcoaaGreatDoor
open Go.Proofs Go.RowKit Go.Sy
set_option maxRecDepth 1000000
attribute [local go_sem] lt2 lt3 lt4 lt5
noncomputable def spArg (k per : Int) : V := .agg [.int .u8 (.n 5), .int .u8 (.n 2), .bool (.eq (.x 0) (.n 1)), .int .u8 (.n k), .int .i64 (.n 8), .int .i64 (.n per), .int .u8 (.n 1), .int .u8 (.n 0), .int .u8 (.n 1), .bool (.eq (.x 1) (.n 1)), .bool (.lit false)]
noncomputable def spPc : Pc := ⟨[], [(0, 1), (0, 1)]⟩
theorem sp_run2 : allChk (fun r => litI 0 r.v) (evFn Tryz.prog kw0 12 20 21 [spArg 2 0] (mem0 []) spPc) = true := by kernel_rfl
theorem sp_run3 : allChk (fun r => litI 0 r.v) (evFn Tryz.prog kw0 12 20 21 [spArg 3 8] (mem0 []) spPc) = true := by kernel_rfl
def spC (k per : Int) (inn tg ha : Bool) : Array Value := #[.int .u8 5, .int .u8 2, .bool inn, .int .u8 k, .int .i64 8, .int .i64 per, .int .u8 1, .int .u8 0, .int .u8 1, .bool tg, .bool ha]
def SpK (k per : Int) : Prop := (k = 2 ∧ per = 0) ∨ (k = 3 ∧ per = 8)
theorem sp_check {k per : Int} (hk : SpK k per) (inn tg : Bool) : Ret 21 #[.agg (spC k per inn tg false)] (.int .i64 0) := by
 intro w
 have hlaid : LaidAs (fun _ => 0) w [] := fun _ x hx => nomatch hx
 let ρ : Nat → Int := fun j => if j = 0 then b2i inn else b2i tg
 have hq : PcR ρ spPc := by
  refine ⟨fun c hc => by simp [spPc] at hc, ?_⟩
  intro i lo hi h
  match i, h with
  | 0, h => obtain ⟨rfl, rfl⟩ := Prod.mk.inj (Option.some.inj (show some ((0 : Int), (1 : Int)) = some (lo, hi) from h)); exact b2i_r inn
  | 1, h => obtain ⟨rfl, rfl⟩ := Prod.mk.inj (Option.some.inj (show some ((0 : Int), (1 : Int)) = some (lo, hi) from h)); exact b2i_r tg
  | i + 2, h => exact absurd (show (none : Option (Int × Int)) = some (lo, hi) from h) (by simp)
 have hV : VRs (cx0 (fun _ => 0) ρ) [spArg k per] #[.agg (spC k per inn tg false)].toList :=
  VRs.cons (VR.agg.2 ⟨_, rfl, VRs.cons (vi (by decide)) (VRs.cons (vi (by decide)) (VRs.cons (vr_bool rfl) (VRs.cons (vi (by rcases hk with ⟨rfl, rfl⟩ | ⟨rfl, rfl⟩ <;> decide)) (VRs.cons (vi (by decide)) (VRs.cons (vi (by rcases hk with ⟨rfl, rfl⟩ | ⟨rfl, rfl⟩ <;> decide)) (VRs.cons (vi (by decide))
   (VRs.cons (vi (by decide)) (VRs.cons (vi (by decide)) (VRs.cons (vr_bool rfl) (VRs.cons (VR.bool.2 rfl) VRs.nil))))))))))⟩) VRs.nil
 rcases hk with ⟨rfl, rfl⟩ | ⟨rfl, rfl⟩
 ·refine (con_run plain kw0_ok hq hV hlaid sp_run2).mono ?_
  rintro e w' ⟨r, c', y, hc, _, rfl, hv, _, hbel⟩
  exact ⟨by rw [litI_ok hc hv], hbel⟩
 ·refine (con_run plain kw0_ok hq hV hlaid sp_run3).mono ?_
  rintro e w' ⟨r, c', y, hc, _, rfl, hv, _, hbel⟩
  exact ⟨by rw [litI_ok hc hv], hbel⟩
def spN (k per : Int) (inn tg : Bool) (dn : Nat) (len : Int) (z dz : Bool) : Nums := ⟨5, 2, inn, k, 8, per, 1, 0, 1, tg, false, 0, 0, 0, 0, 0, dn, len, z, 0, 0, true, false, false, dz, true⟩
theorem sp_R {k per : Int} (hk : SpK k per) (inn tg : Bool) (dn : Nat) (len : Int) (z dz : Bool) (hp : dn ≤ 300) (hm : 0 ≤ len ∧ len ≤ 300) : (spN k per inn tg dn len z dz).R := by
 unfold Nums.R PipeR JobR spN
 dsimp only
 rcases hk with ⟨rfl, rfl⟩ | ⟨rfl, rfl⟩ <;> omega
theorem sp_str {k per : Int} (hk : SpK k per) (inn tg : Bool) (dn : Nat) (len : Int) (z dz : Bool) (h : (inn = true ∧ dn = 0 ∧ z = false ∧ 0 ≤ len) ∨ (inn = false ∧ len = 0)) : fStr.den (spN k per inn tg dn len z dz).rho = false := by
 have r2 : (spN k per inn tg dn len z dz).rho 2 = b2i inn := rfl
 have r3 : (spN k per inn tg dn len z dz).rho 3 = k := rfl
 have r11 : (spN k per inn tg dn len z dz).rho 11 = 0 := rfl
 have r12 : (spN k per inn tg dn len z dz).rho 12 = 0 := rfl
 have r13 : (spN k per inn tg dn len z dz).rho 13 = 0 := rfl
 have r14 : (spN k per inn tg dn len z dz).rho 14 = 0 := rfl
 have r15 : (spN k per inn tg dn len z dz).rho 15 = 0 := rfl
 have r16 : (spN k per inn tg dn len z dz).rho 16 = (dn : Int) := rfl
 have r17 : (spN k per inn tg dn len z dz).rho 17 = len := rfl
 have r18 : (spN k per inn tg dn len z dz).rho 18 = b2i z := rfl
 have r19 : (spN k per inn tg dn len z dz).rho 19 = 0 := rfl
 have r20 : (spN k per inn tg dn len z dz).rho 20 = 0 := rfl
 have hk0 : k = 2 ∨ k = 3 := hk.imp (·.1) (·.1)
 rcases hk0 with rfl | rfl
 all_goals
  rcases h with ⟨rfl, rfl, rfl, h⟩ | ⟨rfl, rfl⟩
  all_goals
   simp [fStr, fS, fC, fD, fOut, fIn, fP, fI, fN, fT, fStream, nz, BF.den, B.den, E.den, r2, r3, r11, r12, r13, r14, r15, r16, r17, r18, r19, r20, b2i]
   try omega
theorem sp_lim {k per : Int} (inn tg : Bool) (dn : Nat) (len : Int) (z dz : Bool) (hp : dn ≤ 300) (hm : 0 ≤ len ∧ len ≤ 300) : fLim.den (spN k per inn tg dn len z dz).rho = false := by
 have r16 : (spN k per inn tg dn len z dz).rho 16 = (dn : Int) := rfl
 have r17 : (spN k per inn tg dn len z dz).rho 17 = len := rfl
 have r19 : (spN k per inn tg dn len z dz).rho 19 = 0 := rfl
 have r20 : (spN k per inn tg dn len z dz).rho 20 = 0 := rfl
 simp [fLim, BF.den, B.den, E.den, r16, r17, r19, r20]
 omega
end Go.Proofs.YtiajboiobjfcoaaGreatDoor

namespace Go.Proofs.YtiajboiobjfcoaaGreatDoor
open Go.Proofs Go.RowKit Go.Sy
set_option maxRecDepth 1000000
attribute [local go_sem] lt2 lt3 lt4 lt5
set_option maxHeartbeats 4000000 in
theorem bst_in (tg : Bool) (n : Nat) (w : World) (hn : n ≤ 300) :
  Calls Tryz.prog 26 #[.agg #[.bool true, .int .u8 2, .int .i64 8, .bool tg, .slice none 0 0, .bool false, .int .i64 (n : Int)]] w fun e w' => Below w.heap.size w w' ∧
   e = .returned (.tuple #[.agg #[.bool true, .int .u8 2, .int .i64 8, .bool tg, .slice none 0 0, .bool false, .int .i64 (n : Int), .slice none 0 0, .slice none 0 0, .int .i64 0, .int .i64 0, .bool (decide (n = 0)), .int .i64 0], .int .i64 0]) := by
 have d1 : ¬ (n : Int) < 0 := by omega
 have d5 : ¬ (65536 : Int) < (n : Int) := by omega
 have hb : ∀ a b c, Below w.heap.size w (((w.alloc a).alloc b).alloc c) := fun a b c => (((Below.refl w.heap.size w).alloc (Nat.le_refl _) a).alloc (by simp) b).alloc (by simp; omega) c
 go_enter Tryz.func26, Tryz.ntmps26
 by_cases h0 : n = 0
 ·subst h0
  go_wp2_with fail
  exact ret_cell _ _ _ _ _ rfl rfl rfl (alloc3_1 w _ _ _) Tryz.underlying47 rfl (by kernel_rfl) rfl ⟨hb _ _ _, rfl⟩
 ·have q1 : ((n : Int) == 0) = false := by simp; omega
  have q2 : decide (n = 0) = false := by simp [h0]
  rw [q2]
  go_wp2_with fail
  exact ret_cell _ _ _ _ _ rfl rfl rfl (alloc3_1 w _ _ _) Tryz.underlying47 rfl (by kernel_rfl) rfl ⟨hb _ _ _, rfl⟩
def BegSI (tg : Bool) (n : Nat) (w : World) (e : Ending) (w' : World) : Prop :=
 e = .returned (.tuple #[.agg (strV 5 2 true 2 8 0 1 0 1 tg false tg false (n : Int) none 0 0 none 0 0 0 0 (decide (n = 0)) 0 none 0 0 0), .int .i64 0]) ∧ Below w.heap.size w w'
set_option maxHeartbeats 2000000 in
theorem beg_sin (tg : Bool) (n : Nat) (w : World) (hn : n ≤ 300) :
  Calls Tryz.prog 10 #[.agg (spC 2 0 true tg false), .agg #[.int .u8 0, .int .u8 0, .int .u16 0, .int .u16 0, .int .u16 0, .slice none 0 0, .int .i64 (n : Int), .bool false, .slice none 0 0, .int .i64 0]] w (BegSI tg n w) := by
 have hk : SpK 2 0 := .inl ⟨rfl, rfl⟩
 have hR := sp_R hk true tg 0 (n : Int) false true (by omega) (by omega)
 have hctx := (ctx (D := .slice none 0 0) (P := .slice none 0 0) hR ⟨by show (0 : Nat) ≤ _; omega, 0, .inr ⟨rfl, none, rfl, rfl⟩⟩ ⟨by show (0 : Nat) ≤ _; omega, 0, .inr ⟨rfl, none, rfl, rfl⟩⟩).choose_spec
 have hstr := strange_ret hR hctx
 rw [sp_str hk true tg 0 (n : Int) false true (.inl ⟨rfl, rfl, rfl, by omega⟩)] at hstr
 have hgr := great_ret hR hctx rfl
 rw [sp_lim true tg 0 (n : Int) false true (by omega) (by omega)] at hgr
 have hchk := sp_check hk true tg
 unfold spC at hchk ⊢
 refine begin_blk 5 2 true 2 8 0 1 0 1 tg 0 0 0 0 0 none 0 0 (n : Int) false none 0 0 0 w rfl rfl
  (fun W s0 s1 s2 s3 s4 s5 sA sn sc s6 => s0 = true ∧ s1 = 2 ∧ s2 = 8 ∧ s3 = tg ∧ s4 = false ∧ s5 = (n : Int) ∧ sA = none ∧ sn = 0 ∧ sc = 0 ∧ s6 = decide (n = 0))
  (fun W W' g cs hw hgc s0 s1 s2 s3 s4 s5 sA sn sc s6 h => h) False _ (fun w2 er h he hf => hf.elim) (fun w2 s0 s1 s2 s3 s4 s5 sA sn sc s6 h hG => ?_) hchk hstr (fun w' _ => hgr w') ?_
 ·obtain ⟨rfl, rfl, rfl, rfl, rfl, rfl, rfl, rfl, rfl, rfl⟩ := hG
  exact ⟨rfl, h⟩
 ·intro w' hw'
  refine (bst_in tg n w' hn).mono ?_
  rintro e w2 ⟨hb2, rfl⟩
  exact ⟨hb2, 0, true, 2, 8, tg, false, (n : Int), none, 0, 0, decide (n = 0), rfl, fun _ => ⟨rfl, rfl, rfl, rfl, rfl, rfl, rfl, rfl, rfl, rfl⟩, fun h => absurd rfl h⟩
end Go.Proofs.YtiajboiobjfcoaaGreatDoor
