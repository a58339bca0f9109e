/-
  What is proved here: transactions.Check accepts the transactions of isochronous and other pipes.
  Conditions: the fields lie in their ranges.
-/
import Derived.Test.YtiajboiobjfcoaaGreatDoorICk
import Derived.Test.YtiajboiobjfcoaaGreatDoorIDo
namespace Go.Proofs.YtiajboiobjfcoaaGreatDoor
open Go.Proofs Go.RowKit
section
open Go.Sy
set_option maxRecDepth 1000000
noncomputable def tArg (what : Int) (mx : E) : V := .agg [.int .u8 (.x 0), .int .u8 (.x 1), .int .u8 (.n what), .bool (.eq (.x 3) (.n 1)), .bool (.eq (.x 4) (.n 1)), .int .i64 mx, .sarr 4096 1 (.x 2)]
noncomputable def tPc (n m : Int × Int) (a b : Int × Int) : Pc := ⟨[], [(0, 127), (0, 15), n, a, b, m]⟩
noncomputable def tRun (what : Int) (mx : E) (n m a b : Int × Int) : Bool := allChk (fun r => litI 0 r.v) (evFn Tryz.prog kw0 10 20 57 [tArg what mx] jMem (tPc n m a b))
theorem t_in1 : tRun 9 (.x 5) (0, 0) (0, 1024) (0, 0) (1, 1) = true := by kernel_rfl
theorem t_out1 : tRun 1 (.n 0) (0, 1024) (0, 0) (0, 0) (1, 1) = true := by kernel_rfl
theorem tck_tok {what : Int} {mx : E} {n m a b : Int × Int} (hr : tRun what mx n m a b = true) (hwh : 0 ≤ what ∧ what ≤ 255) (ad en : Int) (tg iso : Bool) (mxv : Int) (A : Option Addr) (k c : Nat) (h0 : 0 ≤ ad ∧ ad ≤ 127) (h1 : 0 ≤ en ∧ en ≤ 15)
  (hA : SlZ (.slice A k c) k A.isNone) (hn : n.1 ≤ (k : Int) ∧ (k : Int) ≤ n.2) (ha : a.1 ≤ b2i tg ∧ b2i tg ≤ a.2) (hb : b.1 ≤ b2i iso ∧ b2i iso ≤ b.2) (hm : m.1 ≤ mxv ∧ mxv ≤ m.2) (hmr : -9223372036854775808 ≤ mxv ∧ mxv ≤ 9223372036854775807)
  (he : ∀ ρ : Nat → Int, ρ 5 = mxv → mx.den ρ = mxv) : TckOk (.agg #[.int .u8 ad, .int .u8 en, .int .u8 what, .bool tg, .bool iso, .int .i64 mxv, .slice A k c]) := by
 intro w
 obtain ⟨pl, hpl⟩ := slz_place hA
 let ρ : Nat → Int := fun j => if j = 0 then ad else if j = 1 then en else if j = 2 then (k : Int) else if j = 3 then b2i tg else if j = 4 then b2i iso else if j = 5 then mxv else if j = 1063 then b2i A.isNone else 0
 have em := he ρ rfl
 have hq : PcR ρ (tPc n m a b) := by
  refine ⟨fun c hc => by simp [tPc] at hc, ?_⟩
  intro i lo hi h
  match i, h with
  | 0, h => obtain ⟨rfl, rfl⟩ := Prod.mk.inj (Option.some.inj (show some ((0 : Int), (127 : Int)) = some (lo, hi) from h)); exact h0
  | 1, h => obtain ⟨rfl, rfl⟩ := Prod.mk.inj (Option.some.inj (show some ((0 : Int), (15 : Int)) = some (lo, hi) from h)); exact h1
  | 2, h => obtain rfl := Option.some.inj (show some n = some (lo, hi) from h); exact hn
  | 3, h => obtain rfl := Option.some.inj (show some a = some (lo, hi) from h); exact ha
  | 4, h => obtain rfl := Option.some.inj (show some b = some (lo, hi) from h); exact hb
  | 5, h => obtain rfl := Option.some.inj (show some m = some (lo, hi) from h); exact hm
  | i + 6, h => exact absurd (show (none : Option (Int × Int)) = some (lo, hi) from h) (by simp)
 have hV : VR (cJ ρ pl (0, 0)) (tArg what mx) (.agg #[.int .u8 ad, .int .u8 en, .int .u8 what, .bool tg, .bool iso, .int .i64 mxv, .slice A k c]) := by
  refine VR.agg.2 ⟨_, rfl, VRs.cons (VR.int.2 ⟨rfl, h0.1, by show ad ≤ 255; omega⟩) (VRs.cons (VR.int.2 ⟨rfl, h1.1, by show en ≤ 255; omega⟩) (VRs.cons (VR.int.2 ⟨rfl, hwh⟩)
   (VRs.cons (vr_bool rfl) (VRs.cons (vr_bool rfl) (VRs.cons (VR.int.2 ⟨by rw [show mx.den (cJ ρ pl (0, 0)).ρ = mxv from em], by rw [show mx.den (cJ ρ pl (0, 0)).ρ = mxv from em]; exact hmr⟩) (VRs.cons ?_ VRs.nil))))))⟩
  exact hpl _ 4096 2 (show 4096 < 4098 by omega) rfl rfl rfl
 refine (con_runC plain kw0_ok (cJ_mem ρ pl (0, 0) w) (cJ_glob _ _ _) (cJ_wr _ _ _) hq (VRs.cons hV VRs.nil) hr).mono ?_
 rintro e' w' ⟨r, c', y, hc, hp, rfl, hv, hρ, hbel⟩
 exact ⟨by rw [litI_ok hc hv], hbel⟩
end
end Go.Proofs.YtiajboiobjfcoaaGreatDoor
