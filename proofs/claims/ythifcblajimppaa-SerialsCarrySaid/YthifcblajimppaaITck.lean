/-
  What is proved here: packets.Check accepts the packets of a transaction.
  Conditions: the fields lie in their ranges; what the data's cells hold.
  What is proved here: transactions.Check accepts the transactions of isochronous and other pipes.
  Conditions: the fields lie in their ranges.
-/
import Derived.Test.YthifcblajimppaaQCtx
import Derived.Test.YthifcblajimppaaISpeak
import Derived.Test.YthifcblajimppaaIDo
namespace Go.Proofs.Ythifcblajimppaa
open Go.Proofs Go.RowKit
attribute [local go_sem] lt2 lt3 lt4 lt5
set_option maxRecDepth 100000 in
theorem equal_ret (A B : Option Addr) (n c m d : Nat) (xs : List Int) (w : World) (h : U8 w A n c xs) (h' : U8 w B m d xs) :
  Calls Try.prog 78 #[.slice A n c, .slice B m d] w fun e w' => e = .returned (.bool true) ∧ w' = w := by
 have t1 : (convert 33 9 (.slice A n c)).run Try.prog w = .ok (.string (strOfNums xs)) w := h.text (e := 5) rfl rfl rfl 0
 have t2 : (convert 33 9 (.slice B m d)).run Try.prog w = .ok (.string (strOfNums xs)) w := h'.text (e := 5) rfl rfl rfl 0
 go_enter Try.func78, Try.ntmps78
 go_wp2
 go_ret
 exact ⟨by simp, rfl⟩
theorem shape_ret (pid : Int) (h : pid = 3 ∨ pid = 11) (w : World) : Calls Try.prog 54 #[.int .u8 pid] w fun e w' => e = .returned (.int .u8 5) ∧ w' = w := by
 rcases h with rfl | rfl
 all_goals
  go_enter Try.func54, Try.ntmps54
  go_wp2
  go_ret
  exact ⟨rfl, rfl⟩
theorem fields_ret (w : World) : Calls Try.prog 55 #[.int .u8 5] w fun e w' => e = .returned (.slice none 0 0) ∧ w' = w := by
 go_enter Try.func55, Try.ntmps55
 go_wp2
 go_ret
 exact ⟨rfl, rfl⟩
set_option maxHeartbeats 1000000 in
theorem number_ret (v : Value) (w : World) : Calls Try.prog 56 #[v, .slice none 0 0] w fun e w' => e = .returned (.tuple #[.int .u32 0, .int .i64 0]) ∧ w' = w := by
 go_enter Try.func56, Try.ntmps56
 go_wp2
 go_loop [4, 5, 10] (fun a b i => a = .int .u32 0 ∧ b = .int .i64 0 ∧ i = .int .i64 0) (fun _ _ _ => 0)
 case atStart => exact ⟨rfl, rfl, rfl⟩
 case round =>
  obtain ⟨rfl, rfl, rfl⟩ := hrel
  go_wp2
  go_ret2
  exact ⟨rfl, rfl⟩
set_option maxHeartbeats 1000000 in
theorem from_ret (v : Value) (x : Int) (w : World) : Calls Try.prog 57 #[v, .slice none 0 0, .int .u32 x] w fun e w' => (∃ u, e = .returned u) ∧ w' = w := by
 go_enter Try.func57, Try.ntmps57
 go_wp2
 go_loop [10] (fun i => i = .int .i64 0) (fun _ => 0)
 case atStart => rfl
 case round =>
  subst hrel
  go_wp2
  go_end0
  exact ⟨⟨_, rfl⟩, rfl⟩
set_option maxHeartbeats 4000000 in
set_option maxRecDepth 1000000 in
theorem same_ret (p : Pk) (A B : Option Addr) (n c m d : Nat) (w : World) (h : U8 w A n c p.data) (h' : U8 w B m d p.data) :
  Calls Try.prog 58 #[pkV p (.slice A n c), pkV p (.slice B m d)] w fun e w' => e = .returned (.bool true) ∧ Below w.heap.size w w' := by
 have hb2 : ∀ a b, Below w.heap.size w ((w.alloc a).alloc b) := fun a b => ((Below.refl w.heap.size w).alloc (Nat.le_refl _) a).alloc (by simp) b
 unfold pkV
 go_enter Try.func58, Try.ntmps58
 go_wp2_with fail
 refine (equal_ret A B n c m d p.data _ (h.below (hb2 _ _)) (h'.below (hb2 _ _))).mono ?_
 rintro e w1 ⟨rfl, rfl⟩
 go_wp2_with fail
 go_ret
 exact ⟨rfl, hb2 _ _⟩
set_option maxHeartbeats 4000000 in
set_option maxRecDepth 1000000 in
theorem ck_data (tg : Bool) (xs : List Int) (hl : xs.length ≤ 1024) : CkOk ⟨if tg then 11 else 3, 0, 0, xs⟩ := by
 intro w A n c h
 have hn : n ≤ 1024 := by rw [← h.1]; exact hl
 have q1 : decide ((1024 : Int) < (n : Int)) = false := by simp; omega
 have hba : ∀ o, Below w.heap.size w (w.alloc o) := fun o => (Below.refl w.heap.size w).alloc (Nat.le_refl _) o
 have hb2 : ∀ a b, Below w.heap.size w ((w.alloc a).alloc b) := fun a b => ((Below.refl w.heap.size w).alloc (Nat.le_refl _) a).alloc (by simp) b
 have hsm := fun w h1 h2 => same_ret ⟨if tg then 11 else 3, 0, 0, xs⟩ A A n c n c w h1 h2
 unfold pkV at hsm ⊢
 cases tg
 all_goals
  simp only [if_true, if_false, Bool.false_eq_true] at hsm ⊢
  go_enter Try.func48, Try.ntmps48
  go_wp2_with fail
  refine (shape_ret _ (by omega) _).mono ?_
  rintro e w1 ⟨rfl, rfl⟩
  go_wp2_with fail
  refine (fields_ret _).mono ?_
  rintro e w1 ⟨rfl, rfl⟩
  go_wp2_with fail
  go_loop [17] (fun i => i = .int .i64 0) (fun _ => 0)
  case atStart => rfl
  case round =>
   subst hrel
   go_wp2_with fail
   refine (number_ret _ _).mono ?_
   rintro e w1 ⟨rfl, rfl⟩
   go_wp2_with fail
   refine (from_ret _ _ _).mono ?_
   rintro e w1 ⟨⟨u, rfl⟩, rfl⟩
   go_wp2_with fail
   refine (hsm _ (h.below (hb2 _ _)) (h.below (hb2 _ _))).mono ?_
   rintro e w2 ⟨rfl, hb3⟩
   have hX0 := heap_below (alloc2_0 w _ _) hb3
   have hbb := (hb2 _ _).trans (hb3.mono (hb2 _ _).size)
   have x9 := cell_of hX0 9
   clear hX0 hb3
   go_wp2_with fail
   go_ret
   exact ⟨rfl, hbb⟩
section
open Go.Sy
set_option maxRecDepth 1000000
noncomputable def pkArg (pid : Int) (a e : E) : V := .agg [.int .u8 (.n pid), .int .u8 a, .int .u8 e, .int .u16 (.n 0), .int .u8 (.n 0), .int .u8 (.n 0), .bool (.lit false), .bool (.lit false), .int .u8 (.n 0), .sarr 4096 1 (.x 2)]
noncomputable def ckPc : Pc := ⟨[], [(0, 127), (0, 15), (0, 0)]⟩
noncomputable def kwQ : Kw := kwArgs 78 [.sarr 4096 1 (.x 2), .nilSlice] (.bool (.lit true)) kw0
noncomputable def ckRun (pid : Int) (a e : E) : Bool := allChk (fun r => litI 0 r.v) (evFn Try.prog kwQ 10 20 48 [pkArg pid a e] jMem ckPc)
theorem ck_r2 : ckRun 2 (.n 0) (.n 0) = true := by kernel_rfl
theorem ck_r10 : ckRun 10 (.n 0) (.n 0) = true := by kernel_rfl
theorem ck_r14 : ckRun 14 (.n 0) (.n 0) = true := by kernel_rfl
theorem equal_nil (A : Option Addr) (c : Nat) (w : World) : Calls Try.prog 78 #[.slice A 0 c, .slice none 0 0] w fun e w' => e = .returned (.bool true) ∧ w' = w := by
 have t1 : (convert 33 9 (.slice A 0 c)).run Try.prog w = .ok (.string (strOfNums [])) w := by
  cases A with
  | none => exact run_convert_bytes_nil w 33 5 rfl rfl 0 c 9 rfl
  | some a => exact U8.text (w := w) (A := some a) (n := 0) (c := c) (xs := []) ⟨rfl, (fun _ hx => nomatch hx), Nat.zero_le _, .inr ⟨a, rfl, fun j hj => absurd hj (Nat.not_lt_zero _)⟩⟩ (e := 5) rfl rfl rfl 0
 have t2 : (convert 33 9 (.slice none 0 0)).run Try.prog w = .ok (.string (strOfNums [])) w := run_convert_bytes_nil w 33 5 rfl rfl 0 0 9 rfl
 go_enter Try.func78, Try.ntmps78
 go_wp2
 go_ret
 exact ⟨by simp, rfl⟩
theorem kwQ_ok {ρ : Nat → Int} (h2 : ρ 2 = 0) : KwOK Try.prog ρ kwQ := by
 refine kwArgs_ok (callable plain (by kernel_rfl)) kw0_ok ?_
 intro c args w hρ hl
 obtain ⟨x, ys, e, hx, hl⟩ := VRs.cons_iff.1 hl
 obtain ⟨y, zs, e', hy, hl⟩ := VRs.cons_iff.1 hl
 rw [VRs.nil_iff] at hl
 subst hl
 subst e'
 obtain ⟨_, n, cap, hn, _, hx⟩ := VR.sarr.1 hx
 have hn0 : n = 0 := by
  have : (E.x 2).den c.ρ = c.ρ 2 := rfl
  rw [this, hρ, h2] at hn
  omega
 rcases hx with ⟨hp, _⟩ | ⟨_, a, rfl, _⟩
 ·omega
 have hy' : y = .slice none 0 0 := VR.nilSlice.1 hy
 subst hy'
 have : args = #[.slice a 0 cap, .slice none 0 0] := by apply Array.ext'; rw [e]
 subst this
 refine (equal_nil a cap w).mono ?_
 rintro e w' ⟨rfl, rfl⟩
 exact ⟨_, rfl, fun c' _ => VR.bool.2 rfl, Below.refl _ _⟩
theorem ck_tok {pid ad en : Int} {a e : E} (hr : ckRun pid a e = true) (ha : ∀ ρ : Nat → Int, ρ 0 = ad → ρ 1 = en → a.den ρ = ad ∧ e.den ρ = en) (h0 : 0 ≤ ad ∧ ad ≤ 127) (h1 : 0 ≤ en ∧ en ≤ 15) (hp : 0 ≤ pid ∧ pid ≤ 255) : CkOk ⟨pid, ad, en, []⟩ := by
 intro w A n c h
 have hn : n = 0 := by rw [← h.1]; rfl
 subst hn
 obtain ⟨pl, hpl⟩ := slz_place (v := .slice A 0 c) (n := 0) (z := A.isNone) ⟨by omega, c, .inr ⟨rfl, A, rfl, rfl⟩⟩
 let ρ : Nat → Int := fun j => if j = 0 then ad else if j = 1 then en else if j = 1063 then b2i A.isNone else 0
 obtain ⟨ea, ee⟩ := ha ρ rfl rfl
 have hq : PcR ρ ckPc := by
  refine ⟨fun c hc => by simp [ckPc] at hc, ?_⟩
  intro i lo hi h
  match i, h with
  | 0, h => obtain ⟨rfl, rfl⟩ := Prod.mk.inj (Option.some.inj (show some ((0 : Int), (127 : Int)) = some (lo, hi) from h)); exact h0
  | 1, h => obtain ⟨rfl, rfl⟩ := Prod.mk.inj (Option.some.inj (show some ((0 : Int), (15 : Int)) = some (lo, hi) from h)); exact h1
  | 2, h => obtain ⟨rfl, rfl⟩ := Prod.mk.inj (Option.some.inj (show some ((0 : Int), (0 : Int)) = some (lo, hi) from h)); exact ⟨by show (0 : Int) ≤ 0; omega, by show (0 : Int) ≤ 0; omega⟩
  | i + 3, h => exact absurd (show (none : Option (Int × Int)) = some (lo, hi) from h) (by simp)
 have hV : VR (cJ ρ pl (0, 0)) (pkArg pid a e) (pkV ⟨pid, ad, en, []⟩ (.slice A 0 c)) := by
  have z : ∀ k : IntKind, VR (cJ ρ pl (0, 0)) (.int k (.n 0)) (.int k 0) := fun k => VR.int.2 ⟨rfl, show kMin k ≤ 0 ∧ 0 ≤ kMax k by cases k <;> decide⟩
  have f : VR (cJ ρ pl (0, 0)) (.bool (.lit false)) (.bool false) := VR.bool.2 rfl
  refine VR.agg.2 ⟨_, rfl, VRs.cons (VR.int.2 ⟨rfl, hp⟩) (VRs.cons (VR.int.2 ⟨by rw [show a.den (cJ ρ pl (0, 0)).ρ = ad from ea], by rw [show a.den (cJ ρ pl (0, 0)).ρ = ad from ea]; exact ⟨h0.1, by show ad ≤ 255; omega⟩⟩)
   (VRs.cons (VR.int.2 ⟨by rw [show e.den (cJ ρ pl (0, 0)).ρ = en from ee], by rw [show e.den (cJ ρ pl (0, 0)).ρ = en from ee]; exact ⟨h1.1, by show en ≤ 255; omega⟩⟩)
   (VRs.cons (z _) (VRs.cons (z _) (VRs.cons (z _) (VRs.cons f (VRs.cons f (VRs.cons (z _) (VRs.cons ?_ VRs.nil)))))))))⟩
  exact hpl _ 4096 2 (show 4096 < 4098 by omega) rfl rfl rfl
 refine (con_runC plain (kwQ_ok (ρ := ρ) rfl) (cJ_mem ρ pl (0, 0) w) (cJ_glob _ _ _) (cJ_wr _ _ _) hq (VRs.cons hV VRs.nil) hr).mono ?_
 rintro e' w' ⟨r, c', y, hc, hp, rfl, hv, hρ, hbel⟩
 exact ⟨by rw [litI_ok hc hv], hbel⟩
theorem ck_shake {pid : Int} (hp : pid = 2 ∨ pid = 10 ∨ pid = 14) : CkOk ⟨pid, 0, 0, []⟩ := by
 rcases hp with rfl | rfl | rfl
 ·exact ck_tok ck_r2 (fun ρ h h' => ⟨rfl, rfl⟩) (by omega) (by omega) (by omega)
 ·exact ck_tok ck_r10 (fun ρ h h' => ⟨rfl, rfl⟩) (by omega) (by omega) (by omega)
 ·exact ck_tok ck_r14 (fun ρ h h' => ⟨rfl, rfl⟩) (by omega) (by omega) (by omega)
end
end Go.Proofs.Ythifcblajimppaa

namespace Go.Proofs.Ythifcblajimppaa
open Go.Proofs Go.RowKit
section
open Go.Sy
set_option maxRecDepth 1000000
noncomputable def tArg (what : Int) (mx : E) : V := .agg [.int .u8 (.x 0), .int .u8 (.x 1), .int .u8 (.n what), .bool (.eq (.x 3) (.n 1)), .bool (.eq (.x 4) (.n 1)), .int .i64 mx, .sarr 4096 1 (.x 2)]
noncomputable def tPc (n m : Int × Int) (a b : Int × Int) : Pc := ⟨[], [(0, 127), (0, 15), n, a, b, m]⟩
noncomputable def tRun (what : Int) (mx : E) (n m a b : Int × Int) : Bool := allChk (fun r => litI 0 r.v) (evFn Try.prog kw0 10 20 41 [tArg what mx] jMem (tPc n m a b))
theorem t_in0 : tRun 9 (.x 5) (0, 0) (0, 1024) (0, 1) (0, 0) = true := by kernel_rfl
theorem t_out0 : tRun 1 (.n 0) (0, 1024) (0, 0) (0, 1) (0, 0) = true := by kernel_rfl
theorem tck_tok {what : Int} {mx : E} {n m a b : Int × Int} (hr : tRun what mx n m a b = true) (hwh : 0 ≤ what ∧ what ≤ 255) (ad en : Int) (tg iso : Bool) (mxv : Int) (A : Option Addr) (k c : Nat) (h0 : 0 ≤ ad ∧ ad ≤ 127) (h1 : 0 ≤ en ∧ en ≤ 15)
  (hA : SlZ (.slice A k c) k A.isNone) (hn : n.1 ≤ (k : Int) ∧ (k : Int) ≤ n.2) (ha : a.1 ≤ b2i tg ∧ b2i tg ≤ a.2) (hb : b.1 ≤ b2i iso ∧ b2i iso ≤ b.2) (hm : m.1 ≤ mxv ∧ mxv ≤ m.2) (hmr : -9223372036854775808 ≤ mxv ∧ mxv ≤ 9223372036854775807)
  (he : ∀ ρ : Nat → Int, ρ 5 = mxv → mx.den ρ = mxv) : TckOk (.agg #[.int .u8 ad, .int .u8 en, .int .u8 what, .bool tg, .bool iso, .int .i64 mxv, .slice A k c]) := by
 intro w
 obtain ⟨pl, hpl⟩ := slz_place hA
 let ρ : Nat → Int := fun j => if j = 0 then ad else if j = 1 then en else if j = 2 then (k : Int) else if j = 3 then b2i tg else if j = 4 then b2i iso else if j = 5 then mxv else if j = 1063 then b2i A.isNone else 0
 have em := he ρ rfl
 have hq : PcR ρ (tPc n m a b) := by
  refine ⟨fun c hc => by simp [tPc] at hc, ?_⟩
  intro i lo hi h
  match i, h with
  | 0, h => obtain ⟨rfl, rfl⟩ := Prod.mk.inj (Option.some.inj (show some ((0 : Int), (127 : Int)) = some (lo, hi) from h)); exact h0
  | 1, h => obtain ⟨rfl, rfl⟩ := Prod.mk.inj (Option.some.inj (show some ((0 : Int), (15 : Int)) = some (lo, hi) from h)); exact h1
  | 2, h => obtain rfl := Option.some.inj (show some n = some (lo, hi) from h); exact hn
  | 3, h => obtain rfl := Option.some.inj (show some a = some (lo, hi) from h); exact ha
  | 4, h => obtain rfl := Option.some.inj (show some b = some (lo, hi) from h); exact hb
  | 5, h => obtain rfl := Option.some.inj (show some m = some (lo, hi) from h); exact hm
  | i + 6, h => exact absurd (show (none : Option (Int × Int)) = some (lo, hi) from h) (by simp)
 have hV : VR (cJ ρ pl (0, 0)) (tArg what mx) (.agg #[.int .u8 ad, .int .u8 en, .int .u8 what, .bool tg, .bool iso, .int .i64 mxv, .slice A k c]) := by
  refine VR.agg.2 ⟨_, rfl, VRs.cons (VR.int.2 ⟨rfl, h0.1, by show ad ≤ 255; omega⟩) (VRs.cons (VR.int.2 ⟨rfl, h1.1, by show en ≤ 255; omega⟩) (VRs.cons (VR.int.2 ⟨rfl, hwh⟩)
   (VRs.cons (vr_bool rfl) (VRs.cons (vr_bool rfl) (VRs.cons (VR.int.2 ⟨by rw [show mx.den (cJ ρ pl (0, 0)).ρ = mxv from em], by rw [show mx.den (cJ ρ pl (0, 0)).ρ = mxv from em]; exact hmr⟩) (VRs.cons ?_ VRs.nil))))))⟩
  exact hpl _ 4096 2 (show 4096 < 4098 by omega) rfl rfl rfl
 refine (con_runC plain kw0_ok (cJ_mem ρ pl (0, 0) w) (cJ_glob _ _ _) (cJ_wr _ _ _) hq (VRs.cons hV VRs.nil) hr).mono ?_
 rintro e' w' ⟨r, c', y, hc, hp, rfl, hv, hρ, hbel⟩
 exact ⟨by rw [litI_ok hc hv], hbel⟩
end
end Go.Proofs.Ythifcblajimppaa
