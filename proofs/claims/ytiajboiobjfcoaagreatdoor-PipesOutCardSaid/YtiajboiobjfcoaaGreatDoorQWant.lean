/-
  What is proved here: what strange, great, begun and Begin return where there is an error (out of the runs).
  Conditions: the fields lie in their types' ranges; whether the pipe is valid.
  What is proved here: what strange and great return, as calls.
  Conditions: the fields lie in their types' ranges.
-/
import Derived.Test.YtiajboiobjfcoaaGreatDoorQErr
namespace Go.Proofs.YtiajboiobjfcoaaGreatDoor
open Go.Sy Go.RowKit
set_option maxRecDepth 1000000
def jobV (t c v i l : Int) (D : Value) (len : Int) (z : Bool) (P : Value) (m : Int) : Value :=
 .agg #[.int .u8 t, .int .u8 c, .int .u16 v, .int .u16 i, .int .u16 l, D, .int .i64 len, .bool z, P, .int .i64 m]
def JobR (t c v i l : Int) (dn : Nat) (len : Int) (m : Int) : Prop :=
 (0 ≤ t ∧ t ≤ 255) ∧ (0 ≤ c ∧ c ≤ 255) ∧ (0 ≤ v ∧ v ≤ 65535) ∧ (0 ≤ i ∧ i ≤ 65535) ∧ (0 ≤ l ∧ l ≤ 65535) ∧ dn ≤ 300 ∧ (-9223372036854775808 ≤ len ∧ len ≤ 9223372036854775807) ∧ (-9223372036854775808 ≤ m ∧ m ≤ 9223372036854775807)
structure Nums where
 ad : Int
 en : Int
 inn : Bool
 k : Int
 mx : Int
 per : Int
 sp : Int
 hu : Int
 po : Int
 tg : Bool
 ha : Bool
 t : Int
 c : Int
 v : Int
 i : Int
 l : Int
 dn : Nat
 len : Int
 z : Bool
 pn : Nat
 m : Int
 ok : Bool
 st : Bool
 gr : Bool
 dz : Bool
 pz : Bool
noncomputable def Nums.rho (N : Nums) : Nat → Int := fun j =>
 if j < 24 then ([N.ad, N.en, b2i N.inn, N.k, N.mx, N.per, N.sp, N.hu, N.po, b2i N.tg, b2i N.ha, N.t, N.c, N.v, N.i, N.l, (N.dn : Int), N.len, b2i N.z, (N.pn : Int), N.m, b2i N.ok, b2i N.st, b2i N.gr])[j]?.getD 0
 else if j = 1063 then b2i N.dz else if j = 1127 then b2i N.pz else 0
def Nums.P (N : Nums) : Value := pipeV N.ad N.en N.inn N.k N.mx N.per N.sp N.hu N.po N.tg N.ha
def Nums.J (N : Nums) (D P : Value) : Value := jobV N.t N.c N.v N.i N.l D N.len N.z P N.m
def Nums.R (N : Nums) : Prop := PipeR N.ad N.en N.k N.mx N.per N.sp N.hu N.po ∧ JobR N.t N.c N.v N.i N.l N.dn N.len N.m ∧ N.pn ≤ 9223372036854775807
def SlZ (v : Value) (n : Nat) (z : Bool) : Prop := n ≤ 9223372036854775807 ∧ ∃ cap, (0 < n ∧ ∃ b o, v = .slice (some ⟨b, o, none⟩) n cap) ∨ (n = 0 ∧ ∃ a : Option Addr, v = .slice a 0 cap ∧ z = a.isNone)
def cJ (ρ : Nat → Int) (d p : Nat × Nat) : Cx := ⟨fun i => if i = 4096 then d else if i = 4097 then p else (i, 0), fun _ => 0, ρ, 4098, 0, fun i => i < 4098, fun _ h => h⟩
theorem cJ_glob (ρ : Nat → Int) (d p : Nat × Nat) : GlobR (cJ ρ d p) := ⟨show 4096 ≤ 4098 by omega, fun i h => ⟨show i < 4098 by omega, by
 show (if i = 4096 then d else if i = 4097 then p else (i, 0)) = (i, 0)
 rw [if_neg (by omega), if_neg (by omega)]⟩⟩
theorem cJ_mem (ρ : Nat → Int) (d p : Nat × Nat) (w : World) : MemR (cJ ρ d p) jMem w :=
 ⟨rfl, rfl, fun i b h => by simp [jMem, Tr.get] at h, fun i j b b' h => by simp [jMem, Tr.get] at h, fun t n h => by simp [jMem, Tr.get] at h⟩
theorem cJ_wr (ρ : Nat → Int) (d p : Nat × Nat) : ∀ b, ¬ Wr (cJ ρ d p) jMem b := by
 rintro b ⟨i, blk, h1, _⟩
 simp [jMem, Tr.get] at h1
theorem b2i_r (b : Bool) : 0 ≤ b2i b ∧ b2i b ≤ 1 := by cases b <;> simp [b2i]
theorem vr_bool {c : Cx} {i : Nat} {b : Bool} (h : c.ρ i = b2i b) : VR c (.bool (.eq (.x i) (.n 1))) (.bool b) := by
 refine VR.bool.2 ?_
 show Value.bool b = Value.bool (c.ρ i == 1)
 rw [h]; cases b <;> rfl
theorem slz_place {v : Value} {n : Nat} {z : Bool} (h : SlZ v n z) : ∃ pl : Nat × Nat, ∀ (c : Cx) (i : Nat) (x : Nat), c.has i → c.β i = pl → c.ρ x = (n : Int) → c.ρ (rowVar (i - 4096) 63 0) = b2i z → VR c (.sarr i 1 (.x x)) v := by
 obtain ⟨hn, cap, ⟨h1, b, o, rfl⟩ | ⟨rfl, a, rfl, rfl⟩⟩ := h
 ·exact ⟨(b, o), fun c i x h1' h2 h3 _ => VR.sarr.2 ⟨h1', n, cap, h3, hn, .inl ⟨h1, by unfold Cx.ad; rw [h2]; rfl⟩⟩⟩
 ·exact ⟨(0, 0), fun c i x h1' h2 h3 h4 => VR.sarr.2 ⟨h1', 0, cap, h3, by omega, .inr ⟨rfl, a, rfl, by rw [h4]; cases a <;> simp [b2i]⟩⟩⟩
structure Ctx (N : Nums) (D P : Value) (c : Cx) : Prop where
 rho : c.ρ = N.rho
 glob : GlobR c
 mem : ∀ w, MemR c jMem w
 wr : ∀ b, ¬ Wr c jMem b
 pipe : VR c pArg N.P
 job : VR c jArg (N.J D P)
theorem ctx {N : Nums} {D P : Value} (hN : N.R) (hD : SlZ D N.dn N.dz) (hP : SlZ P N.pn N.pz) : ∃ c, Ctx N D P c := by
 obtain ⟨⟨h0, h1, h3, h4, h5, h6, h7, h8⟩, ⟨j0, j1, j2, j3, j4, j5, j6, j7⟩, hpn⟩ := hN
 obtain ⟨d, hd⟩ := slz_place hD
 obtain ⟨p, hp⟩ := slz_place hP
 refine ⟨cJ N.rho d p, rfl, cJ_glob _ _ _, cJ_mem _ _ _, cJ_wr _ _ _, ?_, ?_⟩
 ·exact VR.agg.2 ⟨_, rfl, VRs.cons (VR.int.2 ⟨rfl, h0⟩) (VRs.cons (VR.int.2 ⟨rfl, h1⟩) (VRs.cons (vr_bool rfl) (VRs.cons (VR.int.2 ⟨rfl, h3⟩) (VRs.cons (VR.int.2 ⟨rfl, h4⟩) (VRs.cons (VR.int.2 ⟨rfl, h5⟩) (VRs.cons (VR.int.2 ⟨rfl, h6⟩)
   (VRs.cons (VR.int.2 ⟨rfl, h7⟩) (VRs.cons (VR.int.2 ⟨rfl, h8⟩) (VRs.cons (vr_bool rfl) (VRs.cons (vr_bool rfl) VRs.nil))))))))))⟩
 ·exact VR.agg.2 ⟨_, rfl, VRs.cons (VR.int.2 ⟨rfl, j0⟩) (VRs.cons (VR.int.2 ⟨rfl, j1⟩) (VRs.cons (VR.int.2 ⟨rfl, j2⟩) (VRs.cons (VR.int.2 ⟨rfl, j3⟩) (VRs.cons (VR.int.2 ⟨rfl, j4⟩)
   (VRs.cons (hd _ 4096 16 (show 4096 < 4098 by omega) rfl rfl rfl) (VRs.cons (VR.int.2 ⟨rfl, j6⟩) (VRs.cons (vr_bool rfl) (VRs.cons (hp _ 4097 19 (show 4097 < 4098 by omega) rfl rfl rfl) (VRs.cons (VR.int.2 ⟨rfl, j7⟩) VRs.nil)))))))))⟩
theorem rng_ok {N : Nums} (hN : N.R) {k n : Int × Int} (hk : k.1 ≤ N.k ∧ N.k ≤ k.2) (hn : n.1 ≤ (N.pn : Int) ∧ (N.pn : Int) ≤ n.2) {cs : List (B × Bool)} (hcs : ∀ c ∈ cs, c.1.den N.rho = c.2) : PcR N.rho (ePc cs k n) := by
 obtain ⟨⟨h0, h1, h3, h4, h5, h6, h7, h8⟩, ⟨j0, j1, j2, j3, j4, j5, j6, j7⟩, hpn⟩ := hN
 refine ⟨hcs, set_R (set_R ?_ hk) hn⟩
 intro i lo hi h
 match i, h with
 | 0, h => obtain ⟨rfl, rfl⟩ := Prod.mk.inj (Option.some.inj (show some ((0 : Int), (255 : Int)) = some (lo, hi) from h)); exact h0
 | 1, h => obtain ⟨rfl, rfl⟩ := Prod.mk.inj (Option.some.inj (show some ((0 : Int), (255 : Int)) = some (lo, hi) from h)); exact h1
 | 2, h => obtain ⟨rfl, rfl⟩ := Prod.mk.inj (Option.some.inj (show some ((0 : Int), (1 : Int)) = some (lo, hi) from h)); exact b2i_r _
 | 3, h => obtain ⟨rfl, rfl⟩ := Prod.mk.inj (Option.some.inj (show some ((0 : Int), (255 : Int)) = some (lo, hi) from h)); exact h3
 | 4, h => obtain ⟨rfl, rfl⟩ := Prod.mk.inj (Option.some.inj (show some ((-9223372036854775808 : Int), (9223372036854775807 : Int)) = some (lo, hi) from h)); exact h4
 | 5, h => obtain ⟨rfl, rfl⟩ := Prod.mk.inj (Option.some.inj (show some ((-9223372036854775808 : Int), (9223372036854775807 : Int)) = some (lo, hi) from h)); exact h5
 | 6, h => obtain ⟨rfl, rfl⟩ := Prod.mk.inj (Option.some.inj (show some ((0 : Int), (255 : Int)) = some (lo, hi) from h)); exact h6
 | 7, h => obtain ⟨rfl, rfl⟩ := Prod.mk.inj (Option.some.inj (show some ((0 : Int), (255 : Int)) = some (lo, hi) from h)); exact h7
 | 8, h => obtain ⟨rfl, rfl⟩ := Prod.mk.inj (Option.some.inj (show some ((0 : Int), (255 : Int)) = some (lo, hi) from h)); exact h8
 | 9, h => obtain ⟨rfl, rfl⟩ := Prod.mk.inj (Option.some.inj (show some ((0 : Int), (1 : Int)) = some (lo, hi) from h)); exact b2i_r _
 | 10, h => obtain ⟨rfl, rfl⟩ := Prod.mk.inj (Option.some.inj (show some ((0 : Int), (1 : Int)) = some (lo, hi) from h)); exact b2i_r _
 | 11, h => obtain ⟨rfl, rfl⟩ := Prod.mk.inj (Option.some.inj (show some ((0 : Int), (255 : Int)) = some (lo, hi) from h)); exact j0
 | 12, h => obtain ⟨rfl, rfl⟩ := Prod.mk.inj (Option.some.inj (show some ((0 : Int), (255 : Int)) = some (lo, hi) from h)); exact j1
 | 13, h => obtain ⟨rfl, rfl⟩ := Prod.mk.inj (Option.some.inj (show some ((0 : Int), (65535 : Int)) = some (lo, hi) from h)); exact j2
 | 14, h => obtain ⟨rfl, rfl⟩ := Prod.mk.inj (Option.some.inj (show some ((0 : Int), (65535 : Int)) = some (lo, hi) from h)); exact j3
 | 15, h => obtain ⟨rfl, rfl⟩ := Prod.mk.inj (Option.some.inj (show some ((0 : Int), (65535 : Int)) = some (lo, hi) from h)); exact j4
 | 16, h => obtain ⟨rfl, rfl⟩ := Prod.mk.inj (Option.some.inj (show some ((0 : Int), (300 : Int)) = some (lo, hi) from h)); exact ⟨show (0 : Int) ≤ (N.dn : Int) by omega, show (N.dn : Int) ≤ 300 by omega⟩
 | 17, h => obtain ⟨rfl, rfl⟩ := Prod.mk.inj (Option.some.inj (show some ((-9223372036854775808 : Int), (9223372036854775807 : Int)) = some (lo, hi) from h)); exact j6
 | 18, h => obtain ⟨rfl, rfl⟩ := Prod.mk.inj (Option.some.inj (show some ((0 : Int), (1 : Int)) = some (lo, hi) from h)); exact b2i_r _
 | 19, h => obtain ⟨rfl, rfl⟩ := Prod.mk.inj (Option.some.inj (show some ((0 : Int), (9223372036854775807 : Int)) = some (lo, hi) from h)); exact ⟨show (0 : Int) ≤ (N.pn : Int) by omega, show (N.pn : Int) ≤ 9223372036854775807 by omega⟩
 | 20, h => obtain ⟨rfl, rfl⟩ := Prod.mk.inj (Option.some.inj (show some ((-9223372036854775808 : Int), (9223372036854775807 : Int)) = some (lo, hi) from h)); exact j7
 | 21, h => obtain ⟨rfl, rfl⟩ := Prod.mk.inj (Option.some.inj (show some ((0 : Int), (1 : Int)) = some (lo, hi) from h)); exact b2i_r _
 | i + 22, h => exact absurd (show (none : Option (Int × Int)) = some (lo, hi) from h) (by simp)
end Go.Proofs.YtiajboiobjfcoaaGreatDoor

namespace Go.Proofs.YtiajboiobjfcoaaGreatDoor
open Go.Sy Go.RowKit
set_option maxRecDepth 1000000
def Ret (f : FuncId) (args : Array Value) (v : Value) : Prop := ∀ w, Calls Tryz.prog f args w fun e w' => e = .returned v ∧ Below w.heap.size w w'
theorem strange_ret {N : Nums} {D P : Value} {c : Cx} (hN : N.R) (h : Ctx N D P c) : Ret 22 #[N.J D P, N.P] (.bool (fStr.den N.rho)) := by
 intro w
 have hq := rng_ok hN (k := (0, 255)) (n := (0, 9223372036854775807)) hN.1.2.2.1 ⟨by simp, by have := hN.2.2; simp; omega⟩ (cs := []) (fun _ h => nomatch h)
 rw [← h.rho] at hq ⊢
 refine (con_runC plain kw0_ok (h.mem w) h.glob h.wr hq (VRs.cons h.job (VRs.cons h.pipe VRs.nil)) s_run).mono ?_
 rintro e w' ⟨r, c', y, hc, hp, rfl, hv, hρ, hbel⟩
 exact ⟨by rw [forQ_ok hc (hρ ▸ hp) hv, hρ], hbel⟩
theorem great_ret {N : Nums} {D P : Value} {c : Cx} (hN : N.R) (h : Ctx N D P c) (hp0 : N.pn = 0) : Ret 23 #[N.J D P, N.P] (.bool (fLim.den N.rho)) := by
 intro w
 have hq := rng_ok hN (k := (0, 255)) (n := (0, 0)) hN.1.2.2.1 ⟨by simp, by simp [hp0]⟩ (cs := []) (fun _ h => nomatch h)
 rw [← h.rho] at hq ⊢
 refine (con_runC plain kw0_ok (h.mem w) h.glob h.wr hq (VRs.cons h.job (VRs.cons h.pipe VRs.nil)) g_run0).mono ?_
 rintro e w' ⟨r, c', y, hc, hp, rfl, hv, hρ, hbel⟩
 exact ⟨by rw [forQ_ok hc (hρ ▸ hp) hv, hρ], hbel⟩
end Go.Proofs.YtiajboiobjfcoaaGreatDoor
