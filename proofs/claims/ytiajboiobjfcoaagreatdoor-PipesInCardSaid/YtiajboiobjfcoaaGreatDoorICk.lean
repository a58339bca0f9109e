/-
  What is proved here: packets.Check accepts the packets of a transaction.
  Conditions: the fields lie in their ranges; what the data's cells hold.
-/
import Derived.Test.YtiajboiobjfcoaaGreatDoorQWant
import Derived.Test.YtiajboiobjfcoaaGreatDoorISpeak
namespace Go.Proofs.YtiajboiobjfcoaaGreatDoor
open Go.Proofs Go.RowKit
attribute [local go_sem] lt2 lt3 lt4 lt5
set_option maxRecDepth 100000 in
theorem equal_ret (A B : Option Addr) (n c m d : Nat) (xs : List Int) (w : World) (h : U8 w A n c xs) (h' : U8 w B m d xs) :
  Calls Tryz.prog 111 #[.slice A n c, .slice B m d] w fun e w' => e = .returned (.bool true) ∧ w' = w := by
 have t1 : (convert 23 9 (.slice A n c)).run Tryz.prog w = .ok (.string (strOfNums xs)) w := h.text (e := 5) rfl rfl rfl 0
 have t2 : (convert 23 9 (.slice B m d)).run Tryz.prog w = .ok (.string (strOfNums xs)) w := h'.text (e := 5) rfl rfl rfl 0
 go_enter Tryz.func111, Tryz.ntmps111
 go_wp2
 go_ret
 exact ⟨by simp, rfl⟩
theorem shape_ret (pid : Int) (h : pid = 3 ∨ pid = 11) (w : World) : Calls Tryz.prog 87 #[.int .u8 pid] w fun e w' => e = .returned (.int .u8 5) ∧ w' = w := by
 rcases h with rfl | rfl
 all_goals
  go_enter Tryz.func87, Tryz.ntmps87
  go_wp2
  go_ret
  exact ⟨rfl, rfl⟩
theorem fields_ret (w : World) : Calls Tryz.prog 88 #[.int .u8 5] w fun e w' => e = .returned (.slice none 0 0) ∧ w' = w := by
 go_enter Tryz.func88, Tryz.ntmps88
 go_wp2
 go_ret
 exact ⟨rfl, rfl⟩
set_option maxHeartbeats 1000000 in
theorem number_ret (v : Value) (w : World) : Calls Tryz.prog 89 #[v, .slice none 0 0] w fun e w' => e = .returned (.tuple #[.int .u32 0, .int .i64 0]) ∧ w' = w := by
 go_enter Tryz.func89, Tryz.ntmps89
 go_wp2
 go_loop [4, 5, 10] (fun a b i => a = .int .u32 0 ∧ b = .int .i64 0 ∧ i = .int .i64 0) (fun _ _ _ => 0)
 case atStart => exact ⟨rfl, rfl, rfl⟩
 case round =>
  obtain ⟨rfl, rfl, rfl⟩ := hrel
  go_wp2
  go_ret2
  exact ⟨rfl, rfl⟩
set_option maxHeartbeats 1000000 in
theorem from_ret (v : Value) (x : Int) (w : World) : Calls Tryz.prog 90 #[v, .slice none 0 0, .int .u32 x] w fun e w' => (∃ u, e = .returned u) ∧ w' = w := by
 go_enter Tryz.func90, Tryz.ntmps90
 go_wp2
 go_loop [10] (fun i => i = .int .i64 0) (fun _ => 0)
 case atStart => rfl
 case round =>
  subst hrel
  go_wp2
  go_end0
  exact ⟨⟨_, rfl⟩, rfl⟩
set_option maxHeartbeats 4000000 in
set_option maxRecDepth 1000000 in
theorem same_ret (p : Pk) (A B : Option Addr) (n c m d : Nat) (w : World) (h : U8 w A n c p.data) (h' : U8 w B m d p.data) :
  Calls Tryz.prog 91 #[pkV p (.slice A n c), pkV p (.slice B m d)] w fun e w' => e = .returned (.bool true) ∧ Below w.heap.size w w' := by
 have hb2 : ∀ a b, Below w.heap.size w ((w.alloc a).alloc b) := fun a b => ((Below.refl w.heap.size w).alloc (Nat.le_refl _) a).alloc (by simp) b
 unfold pkV
 go_enter Tryz.func91, Tryz.ntmps91
 go_wp2_with fail
 refine (equal_ret A B n c m d p.data _ (h.below (hb2 _ _)) (h'.below (hb2 _ _))).mono ?_
 rintro e w1 ⟨rfl, rfl⟩
 go_wp2_with fail
 go_ret
 exact ⟨rfl, hb2 _ _⟩
set_option maxHeartbeats 4000000 in
set_option maxRecDepth 1000000 in
theorem ck_data (tg : Bool) (xs : List Int) (hl : xs.length ≤ 1024) : CkOk ⟨if tg then 11 else 3, 0, 0, xs⟩ := by
 intro w A n c h
 have hn : n ≤ 1024 := by rw [← h.1]; exact hl
 have q1 : decide ((1024 : Int) < (n : Int)) = false := by simp; omega
 have hba : ∀ o, Below w.heap.size w (w.alloc o) := fun o => (Below.refl w.heap.size w).alloc (Nat.le_refl _) o
 have hb2 : ∀ a b, Below w.heap.size w ((w.alloc a).alloc b) := fun a b => ((Below.refl w.heap.size w).alloc (Nat.le_refl _) a).alloc (by simp) b
 have hsm := fun w h1 h2 => same_ret ⟨if tg then 11 else 3, 0, 0, xs⟩ A A n c n c w h1 h2
 unfold pkV at hsm ⊢
 cases tg
 all_goals
  simp only [if_true, if_false, Bool.false_eq_true] at hsm ⊢
  go_enter Tryz.func80, Tryz.ntmps80
  go_wp2_with fail
  refine (shape_ret _ (by omega) _).mono ?_
  rintro e w1 ⟨rfl, rfl⟩
  go_wp2_with fail
  refine (fields_ret _).mono ?_
  rintro e w1 ⟨rfl, rfl⟩
  go_wp2_with fail
  go_loop [17] (fun i => i = .int .i64 0) (fun _ => 0)
  case atStart => rfl
  case round =>
   subst hrel
   go_wp2_with fail
   refine (number_ret _ _).mono ?_
   rintro e w1 ⟨rfl, rfl⟩
   go_wp2_with fail
   refine (from_ret _ _ _).mono ?_
   rintro e w1 ⟨⟨u, rfl⟩, rfl⟩
   go_wp2_with fail
   refine (hsm _ (h.below (hb2 _ _)) (h.below (hb2 _ _))).mono ?_
   rintro e w2 ⟨rfl, hb3⟩
   have hX0 := heap_below (alloc2_0 w _ _) hb3
   have hbb := (hb2 _ _).trans (hb3.mono (hb2 _ _).size)
   have x9 := cell_of hX0 9
   clear hX0 hb3
   go_wp2_with fail
   go_ret
   exact ⟨rfl, hbb⟩
section
open Go.Sy
set_option maxRecDepth 1000000
noncomputable def pkArg (pid : Int) (a e : E) : V := .agg [.int .u8 (.n pid), .int .u8 a, .int .u8 e, .int .u16 (.n 0), .int .u8 (.n 0), .int .u8 (.n 0), .bool (.lit false), .bool (.lit false), .int .u8 (.n 0), .sarr 4096 1 (.x 2)]
noncomputable def ckPc : Pc := ⟨[], [(0, 127), (0, 15), (0, 0)]⟩
noncomputable def kwQ : Kw := kwArgs 111 [.sarr 4096 1 (.x 2), .nilSlice] (.bool (.lit true)) kw0
noncomputable def ckRun (pid : Int) (a e : E) : Bool := allChk (fun r => litI 0 r.v) (evFn Tryz.prog kwQ 10 20 80 [pkArg pid a e] jMem ckPc)
theorem ck_r1 : ckRun 1 (.n 5) (.n 2) = true := by kernel_rfl
theorem ck_r9 : ckRun 9 (.n 5) (.n 2) = true := by kernel_rfl
theorem ck_r2 : ckRun 2 (.n 0) (.n 0) = true := by kernel_rfl
theorem ck_r10 : ckRun 10 (.n 0) (.n 0) = true := by kernel_rfl
theorem ck_r14 : ckRun 14 (.n 0) (.n 0) = true := by kernel_rfl
theorem equal_nil (A : Option Addr) (c : Nat) (w : World) : Calls Tryz.prog 111 #[.slice A 0 c, .slice none 0 0] w fun e w' => e = .returned (.bool true) ∧ w' = w := by
 have t1 : (convert 23 9 (.slice A 0 c)).run Tryz.prog w = .ok (.string (strOfNums [])) w := by
  cases A with
  | none => exact run_convert_bytes_nil w 23 5 rfl rfl 0 c 9 rfl
  | some a => exact U8.text (w := w) (A := some a) (n := 0) (c := c) (xs := []) ⟨rfl, (fun _ hx => nomatch hx), Nat.zero_le _, .inr ⟨a, rfl, fun j hj => absurd hj (Nat.not_lt_zero _)⟩⟩ (e := 5) rfl rfl rfl 0
 have t2 : (convert 23 9 (.slice none 0 0)).run Tryz.prog w = .ok (.string (strOfNums [])) w := run_convert_bytes_nil w 23 5 rfl rfl 0 0 9 rfl
 go_enter Tryz.func111, Tryz.ntmps111
 go_wp2
 go_ret
 exact ⟨by simp, rfl⟩
theorem kwQ_ok {ρ : Nat → Int} (h2 : ρ 2 = 0) : KwOK Tryz.prog ρ kwQ := by
 refine kwArgs_ok (callable plain (by kernel_rfl)) kw0_ok ?_
 intro c args w hρ hl
 obtain ⟨x, ys, e, hx, hl⟩ := VRs.cons_iff.1 hl
 obtain ⟨y, zs, e', hy, hl⟩ := VRs.cons_iff.1 hl
 rw [VRs.nil_iff] at hl
 subst hl
 subst e'
 obtain ⟨_, n, cap, hn, _, hx⟩ := VR.sarr.1 hx
 have hn0 : n = 0 := by
  have : (E.x 2).den c.ρ = c.ρ 2 := rfl
  rw [this, hρ, h2] at hn
  omega
 rcases hx with ⟨hp, _⟩ | ⟨_, a, rfl, _⟩
 ·omega
 have hy' : y = .slice none 0 0 := VR.nilSlice.1 hy
 subst hy'
 have : args = #[.slice a 0 cap, .slice none 0 0] := by apply Array.ext'; rw [e]
 subst this
 refine (equal_nil a cap w).mono ?_
 rintro e w' ⟨rfl, rfl⟩
 exact ⟨_, rfl, fun c' _ => VR.bool.2 rfl, Below.refl _ _⟩
theorem ck_tok {pid ad en : Int} {a e : E} (hr : ckRun pid a e = true) (ha : ∀ ρ : Nat → Int, ρ 0 = ad → ρ 1 = en → a.den ρ = ad ∧ e.den ρ = en) (h0 : 0 ≤ ad ∧ ad ≤ 127) (h1 : 0 ≤ en ∧ en ≤ 15) (hp : 0 ≤ pid ∧ pid ≤ 255) : CkOk ⟨pid, ad, en, []⟩ := by
 intro w A n c h
 have hn : n = 0 := by rw [← h.1]; rfl
 subst hn
 obtain ⟨pl, hpl⟩ := slz_place (v := .slice A 0 c) (n := 0) (z := A.isNone) ⟨by omega, c, .inr ⟨rfl, A, rfl, rfl⟩⟩
 let ρ : Nat → Int := fun j => if j = 0 then ad else if j = 1 then en else if j = 1063 then b2i A.isNone else 0
 obtain ⟨ea, ee⟩ := ha ρ rfl rfl
 have hq : PcR ρ ckPc := by
  refine ⟨fun c hc => by simp [ckPc] at hc, ?_⟩
  intro i lo hi h
  match i, h with
  | 0, h => obtain ⟨rfl, rfl⟩ := Prod.mk.inj (Option.some.inj (show some ((0 : Int), (127 : Int)) = some (lo, hi) from h)); exact h0
  | 1, h => obtain ⟨rfl, rfl⟩ := Prod.mk.inj (Option.some.inj (show some ((0 : Int), (15 : Int)) = some (lo, hi) from h)); exact h1
  | 2, h => obtain ⟨rfl, rfl⟩ := Prod.mk.inj (Option.some.inj (show some ((0 : Int), (0 : Int)) = some (lo, hi) from h)); exact ⟨by show (0 : Int) ≤ 0; omega, by show (0 : Int) ≤ 0; omega⟩
  | i + 3, h => exact absurd (show (none : Option (Int × Int)) = some (lo, hi) from h) (by simp)
 have hV : VR (cJ ρ pl (0, 0)) (pkArg pid a e) (pkV ⟨pid, ad, en, []⟩ (.slice A 0 c)) := by
  have z : ∀ k : IntKind, VR (cJ ρ pl (0, 0)) (.int k (.n 0)) (.int k 0) := fun k => VR.int.2 ⟨rfl, show kMin k ≤ 0 ∧ 0 ≤ kMax k by cases k <;> decide⟩
  have f : VR (cJ ρ pl (0, 0)) (.bool (.lit false)) (.bool false) := VR.bool.2 rfl
  refine VR.agg.2 ⟨_, rfl, VRs.cons (VR.int.2 ⟨rfl, hp⟩) (VRs.cons (VR.int.2 ⟨by rw [show a.den (cJ ρ pl (0, 0)).ρ = ad from ea], by rw [show a.den (cJ ρ pl (0, 0)).ρ = ad from ea]; exact ⟨h0.1, by show ad ≤ 255; omega⟩⟩)
   (VRs.cons (VR.int.2 ⟨by rw [show e.den (cJ ρ pl (0, 0)).ρ = en from ee], by rw [show e.den (cJ ρ pl (0, 0)).ρ = en from ee]; exact ⟨h1.1, by show en ≤ 255; omega⟩⟩)
   (VRs.cons (z _) (VRs.cons (z _) (VRs.cons (z _) (VRs.cons f (VRs.cons f (VRs.cons (z _) (VRs.cons ?_ VRs.nil)))))))))⟩
  exact hpl _ 4096 2 (show 4096 < 4098 by omega) rfl rfl rfl
 refine (con_runC plain (kwQ_ok (ρ := ρ) rfl) (cJ_mem ρ pl (0, 0) w) (cJ_glob _ _ _) (cJ_wr _ _ _) hq (VRs.cons hV VRs.nil) hr).mono ?_
 rintro e' w' ⟨r, c', y, hc, hp, rfl, hv, hρ, hbel⟩
 exact ⟨by rw [litI_ok hc hv], hbel⟩
theorem ck_token {pid : Int} (hp : pid = 1 ∨ pid = 9) : CkOk ⟨pid, 5, 2, []⟩ := by
 rcases hp with rfl | rfl
 ·exact ck_tok ck_r1 (fun ρ h h' => ⟨rfl, rfl⟩) (by omega) (by omega) (by omega)
 ·exact ck_tok ck_r9 (fun ρ h h' => ⟨rfl, rfl⟩) (by omega) (by omega) (by omega)
theorem ck_shake {pid : Int} (hp : pid = 2 ∨ pid = 10 ∨ pid = 14) : CkOk ⟨pid, 0, 0, []⟩ := by
 rcases hp with rfl | rfl | rfl
 ·exact ck_tok ck_r2 (fun ρ h h' => ⟨rfl, rfl⟩) (by omega) (by omega) (by omega)
 ·exact ck_tok ck_r10 (fun ρ h h' => ⟨rfl, rfl⟩) (by omega) (by omega) (by omega)
 ·exact ck_tok ck_r14 (fun ρ h h' => ⟨rfl, rfl⟩) (by omega) (by omega) (by omega)
end
end Go.Proofs.YtiajboiobjfcoaaGreatDoor
