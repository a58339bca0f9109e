/-
  What is proved here: a pipe's fields; ranges.
  Conditions: the fields lie in their types' ranges.
  What is defined here: when strange is to say so, as a formula over the fields.
  Conditions: none (definitions only).
  What is proved here: runs of strange and great.
  Conditions: none (runs of the evaluator).
  What is proved here: what strange, great, begun and Begin return where there is an error (out of the runs).
  Conditions: the fields lie in their types' ranges; whether the pipe is valid.
  What is proved here: what strange and great return, as calls.
  Conditions: the fields lie in their types' ranges.
-/
import Derived.Test.YtiajboiobjfcoaaGreatDoorQCon
import Derived.Test.YtiajboiobjfcoaaGreatDoorChecked
namespace Go.Proofs.YtiajboiobjfcoaaGreatDoor
open Go.Sy Go.RowKit
set_option maxRecDepth 1000000
theorem plain : Plain Tryz.prog := .of (by kernel_rfl) (by kernel_rfl)
def pipeV (ad en : Int) (inn : Bool) (k mx per sp hu po : Int) (tg ha : Bool) : Value :=
 .agg #[.int .u8 ad, .int .u8 en, .bool inn, .int .u8 k, .int .i64 mx, .int .i64 per, .int .u8 sp, .int .u8 hu, .int .u8 po, .bool tg, .bool ha]
def PipeR (ad en k mx per sp hu po : Int) : Prop :=
 (0 ≤ ad ∧ ad ≤ 255) ∧ (0 ≤ en ∧ en ≤ 255) ∧ (0 ≤ k ∧ k ≤ 255) ∧ (-9223372036854775808 ≤ mx ∧ mx ≤ 9223372036854775807) ∧ (-9223372036854775808 ≤ per ∧ per ≤ 9223372036854775807) ∧ (0 ≤ sp ∧ sp ≤ 255) ∧ (0 ≤ hu ∧ hu ≤ 255) ∧ (0 ≤ po ∧ po ≤ 255)
def pLf : List Lf := [.int .u8, .int .u8, .bool, .int .u8, .int .i64, .int .i64, .int .u8, .int .u8, .int .u8, .bool, .bool]
noncomputable def pArg : V := .agg (cellsV pLf 0)
def b2i (b : Bool) : Int := if b then 1 else 0
theorem set_get : ∀ {rng : List (Int × Int)} {i j : Nat} {f : Int × Int → Int × Int}, (setRng rng i f)[j]? = (rng[j]?).map fun r => if i = j then f r else r
 | [], i, j, f => by simp [setRng]
 | x :: l, 0, 0, f => by simp [setRng]
 | x :: l, 0, j + 1, f => by simp [setRng]
 | x :: l, i + 1, 0, f => by simp [setRng]
 | x :: l, i + 1, j + 1, f => by
  have := set_get (rng := l) (i := i) (j := j) (f := f)
  simpa [setRng] using this
theorem set_R {ρ : Nat → Int} {rng : List (Int × Int)} {k : Nat} {a b : Int} (hr : ∀ i lo hi, rng[i]? = some (lo, hi) → lo ≤ ρ i ∧ ρ i ≤ hi) (h : a ≤ ρ k ∧ ρ k ≤ b) :
  ∀ i lo hi, (setRng rng k fun _ => (a, b))[i]? = some (lo, hi) → lo ≤ ρ i ∧ ρ i ≤ hi := by
 intro i lo hi hi'
 rw [set_get] at hi'
 cases hg : rng[i]? with
 | none => rw [hg] at hi'; simp at hi'
 | some r =>
  rw [hg] at hi'
  by_cases e : k = i
  ·subst e; simp at hi'; omega
  ·simp [e] at hi'
   exact hr i lo hi (by rw [hg, hi'])
end Go.Proofs.YtiajboiobjfcoaaGreatDoor

namespace Go.Proofs.YtiajboiobjfcoaaGreatDoor
open Go.Sy Go.RowKit
set_option maxRecDepth 1000000
noncomputable def jArg : V := .agg [.int .u8 (.x 11), .int .u8 (.x 12), .int .u16 (.x 13), .int .u16 (.x 14), .int .u16 (.x 15), .sarr 4096 1 (.x 16), .int .i64 (.x 17), .bool (.eq (.x 18) (.n 1)), .sarr 4097 1 (.x 19), .int .i64 (.x 20)]
def jLf : List Lf := [.int .u8, .int .u8, .int .u16, .int .u16, .int .u16]
noncomputable def jMem : Mem := ⟨.nil, 4098, .nil, 0⟩
def fC : BF := .at (.eq (.x 3) (.n 0))
def fI : BF := .at (.eq (.x 3) (.n 1))
def fN : BF := .at (.eq (.x 2) (.n 1))
def fStream : BF := .and (.no fC) (.no fI)
def nz (i : Nat) : BF := .no (.at (.eq (.x i) (.n 0)))
def fS : BF := .or (nz 11) (.or (nz 12) (.or (nz 13) (.or (nz 14) (nz 15))))
def fD : BF := .at (.lt (.n 0) (.x 16))
def fP : BF := .at (.lt (.n 0) (.x 19))
def fT : BF := .or (.and (.no (.at (.lt (.x 11) (.n 128)))) (nz 16)) (.and (.at (.lt (.x 11) (.n 128))) (.no (.at (.eq (.x 16) (.x 15)))))
def fOut : BF := .and fStream (.no fN)
def fIn : BF := .and fStream fN
def fStr : BF :=
 .or (.and fS (.no fC)) (.or (.and fD (.no (.or fC fOut))) (.or (.and (nz 17) (.no fIn)) (.or (.and (.at (.eq (.x 18) (.n 1))) (.no fOut)) (.or (.and fP (.no (.and fI (.no fN)))) (.or (.and (nz 20) (.no (.and fI fN)))
  (.or (.and (.and fI fN) (.at (.lt (.x 20) (.n 1)))) (.or (.and (.and fI (.no fN)) (.no fP)) (.or (.at (.lt (.x 17) (.n 0))) (.or (.at (.lt (.x 20) (.n 0))) (.and fC fT))))))))))
end Go.Proofs.YtiajboiobjfcoaaGreatDoor

namespace Go.Proofs.YtiajboiobjfcoaaGreatDoor
open Go.Sy Go.RowKit
set_option maxRecDepth 1000000
noncomputable def ePc (cs : List (B × Bool)) (k n : Int × Int) : Pc := ⟨cs, setRng (setRng (pLf.map Lf.rng ++ jLf.map Lf.rng ++ [(0, 300), (-9223372036854775808, 9223372036854775807), (0, 1), (0, 9223372036854775807), (-9223372036854775808, 9223372036854775807), (0, 1)]) 3 fun _ => k) 19 fun _ => n⟩
def fLim : BF := .or (.at (.lt (.n 65536) (.x 16))) (.or (.at (.lt (.n 65536) (.x 17))) (.or (.at (.lt (.n 256) (.x 19))) (.at (.lt (.n 256) (.x 20)))))
theorem s_run : allChk (forQ fStr) (evFn Tryz.prog kw0 10 20 22 [jArg, pArg] jMem (ePc [] (0, 255) (0, 9223372036854775807))) = true := by kernel_rfl
theorem g_run0 : allChk (forQ fLim) (evFn Tryz.prog kw0 10 20 23 [jArg, pArg] jMem (ePc [] (0, 255) (0, 0))) = true := by kernel_rfl
end Go.Proofs.YtiajboiobjfcoaaGreatDoor

namespace Go.Proofs.YtiajboiobjfcoaaGreatDoor
open Go.Sy Go.RowKit
set_option maxRecDepth 1000000
def jobV (t c v i l : Int) (D : Value) (len : Int) (z : Bool) (P : Value) (m : Int) : Value :=
 .agg #[.int .u8 t, .int .u8 c, .int .u16 v, .int .u16 i, .int .u16 l, D, .int .i64 len, .bool z, P, .int .i64 m]
def JobR (t c v i l : Int) (dn : Nat) (len : Int) (m : Int) : Prop :=
 (0 ≤ t ∧ t ≤ 255) ∧ (0 ≤ c ∧ c ≤ 255) ∧ (0 ≤ v ∧ v ≤ 65535) ∧ (0 ≤ i ∧ i ≤ 65535) ∧ (0 ≤ l ∧ l ≤ 65535) ∧ dn ≤ 300 ∧ (-9223372036854775808 ≤ len ∧ len ≤ 9223372036854775807) ∧ (-9223372036854775808 ≤ m ∧ m ≤ 9223372036854775807)
structure Nums where
 ad : Int
 en : Int
 inn : Bool
 k : Int
 mx : Int
 per : Int
 sp : Int
 hu : Int
 po : Int
 tg : Bool
 ha : Bool
 t : Int
 c : Int
 v : Int
 i : Int
 l : Int
 dn : Nat
 len : Int
 z : Bool
 pn : Nat
 m : Int
 ok : Bool
 st : Bool
 gr : Bool
 dz : Bool
 pz : Bool
noncomputable def Nums.rho (N : Nums) : Nat → Int := fun j =>
 if j < 24 then ([N.ad, N.en, b2i N.inn, N.k, N.mx, N.per, N.sp, N.hu, N.po, b2i N.tg, b2i N.ha, N.t, N.c, N.v, N.i, N.l, (N.dn : Int), N.len, b2i N.z, (N.pn : Int), N.m, b2i N.ok, b2i N.st, b2i N.gr])[j]?.getD 0
 else if j = 1063 then b2i N.dz else if j = 1127 then b2i N.pz else 0
def Nums.P (N : Nums) : Value := pipeV N.ad N.en N.inn N.k N.mx N.per N.sp N.hu N.po N.tg N.ha
def Nums.J (N : Nums) (D P : Value) : Value := jobV N.t N.c N.v N.i N.l D N.len N.z P N.m
def Nums.R (N : Nums) : Prop := PipeR N.ad N.en N.k N.mx N.per N.sp N.hu N.po ∧ JobR N.t N.c N.v N.i N.l N.dn N.len N.m ∧ N.pn ≤ 9223372036854775807
def SlZ (v : Value) (n : Nat) (z : Bool) : Prop := n ≤ 9223372036854775807 ∧ ∃ cap, (0 < n ∧ ∃ b o, v = .slice (some ⟨b, o, none⟩) n cap) ∨ (n = 0 ∧ ∃ a : Option Addr, v = .slice a 0 cap ∧ z = a.isNone)
def cJ (ρ : Nat → Int) (d p : Nat × Nat) : Cx := ⟨fun i => if i = 4096 then d else if i = 4097 then p else (i, 0), fun _ => 0, ρ, 4098, 0, fun i => i < 4098, fun _ h => h⟩
theorem cJ_glob (ρ : Nat → Int) (d p : Nat × Nat) : GlobR (cJ ρ d p) := ⟨show 4096 ≤ 4098 by omega, fun i h => ⟨show i < 4098 by omega, by
 show (if i = 4096 then d else if i = 4097 then p else (i, 0)) = (i, 0)
 rw [if_neg (by omega), if_neg (by omega)]⟩⟩
theorem cJ_mem (ρ : Nat → Int) (d p : Nat × Nat) (w : World) : MemR (cJ ρ d p) jMem w :=
 ⟨rfl, rfl, fun i b h => by simp [jMem, Tr.get] at h, fun i j b b' h => by simp [jMem, Tr.get] at h, fun t n h => by simp [jMem, Tr.get] at h⟩
theorem cJ_wr (ρ : Nat → Int) (d p : Nat × Nat) : ∀ b, ¬ Wr (cJ ρ d p) jMem b := by
 rintro b ⟨i, blk, h1, _⟩
 simp [jMem, Tr.get] at h1
theorem b2i_r (b : Bool) : 0 ≤ b2i b ∧ b2i b ≤ 1 := by cases b <;> simp [b2i]
theorem vr_bool {c : Cx} {i : Nat} {b : Bool} (h : c.ρ i = b2i b) : VR c (.bool (.eq (.x i) (.n 1))) (.bool b) := by
 refine VR.bool.2 ?_
 show Value.bool b = Value.bool (c.ρ i == 1)
 rw [h]; cases b <;> rfl
theorem slz_place {v : Value} {n : Nat} {z : Bool} (h : SlZ v n z) : ∃ pl : Nat × Nat, ∀ (c : Cx) (i : Nat) (x : Nat), c.has i → c.β i = pl → c.ρ x = (n : Int) → c.ρ (rowVar (i - 4096) 63 0) = b2i z → VR c (.sarr i 1 (.x x)) v := by
 obtain ⟨hn, cap, ⟨h1, b, o, rfl⟩ | ⟨rfl, a, rfl, rfl⟩⟩ := h
 ·exact ⟨(b, o), fun c i x h1' h2 h3 _ => VR.sarr.2 ⟨h1', n, cap, h3, hn, .inl ⟨h1, by unfold Cx.ad; rw [h2]; rfl⟩⟩⟩
 ·exact ⟨(0, 0), fun c i x h1' h2 h3 h4 => VR.sarr.2 ⟨h1', 0, cap, h3, by omega, .inr ⟨rfl, a, rfl, by rw [h4]; cases a <;> simp [b2i]⟩⟩⟩
structure Ctx (N : Nums) (D P : Value) (c : Cx) : Prop where
 rho : c.ρ = N.rho
 glob : GlobR c
 mem : ∀ w, MemR c jMem w
 wr : ∀ b, ¬ Wr c jMem b
 pipe : VR c pArg N.P
 job : VR c jArg (N.J D P)
theorem ctx {N : Nums} {D P : Value} (hN : N.R) (hD : SlZ D N.dn N.dz) (hP : SlZ P N.pn N.pz) : ∃ c, Ctx N D P c := by
 obtain ⟨⟨h0, h1, h3, h4, h5, h6, h7, h8⟩, ⟨j0, j1, j2, j3, j4, j5, j6, j7⟩, hpn⟩ := hN
 obtain ⟨d, hd⟩ := slz_place hD
 obtain ⟨p, hp⟩ := slz_place hP
 refine ⟨cJ N.rho d p, rfl, cJ_glob _ _ _, cJ_mem _ _ _, cJ_wr _ _ _, ?_, ?_⟩
 ·exact VR.agg.2 ⟨_, rfl, VRs.cons (VR.int.2 ⟨rfl, h0⟩) (VRs.cons (VR.int.2 ⟨rfl, h1⟩) (VRs.cons (vr_bool rfl) (VRs.cons (VR.int.2 ⟨rfl, h3⟩) (VRs.cons (VR.int.2 ⟨rfl, h4⟩) (VRs.cons (VR.int.2 ⟨rfl, h5⟩) (VRs.cons (VR.int.2 ⟨rfl, h6⟩)
   (VRs.cons (VR.int.2 ⟨rfl, h7⟩) (VRs.cons (VR.int.2 ⟨rfl, h8⟩) (VRs.cons (vr_bool rfl) (VRs.cons (vr_bool rfl) VRs.nil))))))))))⟩
 ·exact VR.agg.2 ⟨_, rfl, VRs.cons (VR.int.2 ⟨rfl, j0⟩) (VRs.cons (VR.int.2 ⟨rfl, j1⟩) (VRs.cons (VR.int.2 ⟨rfl, j2⟩) (VRs.cons (VR.int.2 ⟨rfl, j3⟩) (VRs.cons (VR.int.2 ⟨rfl, j4⟩)
   (VRs.cons (hd _ 4096 16 (show 4096 < 4098 by omega) rfl rfl rfl) (VRs.cons (VR.int.2 ⟨rfl, j6⟩) (VRs.cons (vr_bool rfl) (VRs.cons (hp _ 4097 19 (show 4097 < 4098 by omega) rfl rfl rfl) (VRs.cons (VR.int.2 ⟨rfl, j7⟩) VRs.nil)))))))))⟩
theorem rng_ok {N : Nums} (hN : N.R) {k n : Int × Int} (hk : k.1 ≤ N.k ∧ N.k ≤ k.2) (hn : n.1 ≤ (N.pn : Int) ∧ (N.pn : Int) ≤ n.2) {cs : List (B × Bool)} (hcs : ∀ c ∈ cs, c.1.den N.rho = c.2) : PcR N.rho (ePc cs k n) := by
 obtain ⟨⟨h0, h1, h3, h4, h5, h6, h7, h8⟩, ⟨j0, j1, j2, j3, j4, j5, j6, j7⟩, hpn⟩ := hN
 refine ⟨hcs, set_R (set_R ?_ hk) hn⟩
 intro i lo hi h
 match i, h with
 | 0, h => obtain ⟨rfl, rfl⟩ := Prod.mk.inj (Option.some.inj (show some ((0 : Int), (255 : Int)) = some (lo, hi) from h)); exact h0
 | 1, h => obtain ⟨rfl, rfl⟩ := Prod.mk.inj (Option.some.inj (show some ((0 : Int), (255 : Int)) = some (lo, hi) from h)); exact h1
 | 2, h => obtain ⟨rfl, rfl⟩ := Prod.mk.inj (Option.some.inj (show some ((0 : Int), (1 : Int)) = some (lo, hi) from h)); exact b2i_r _
 | 3, h => obtain ⟨rfl, rfl⟩ := Prod.mk.inj (Option.some.inj (show some ((0 : Int), (255 : Int)) = some (lo, hi) from h)); exact h3
 | 4, h => obtain ⟨rfl, rfl⟩ := Prod.mk.inj (Option.some.inj (show some ((-9223372036854775808 : Int), (9223372036854775807 : Int)) = some (lo, hi) from h)); exact h4
 | 5, h => obtain ⟨rfl, rfl⟩ := Prod.mk.inj (Option.some.inj (show some ((-9223372036854775808 : Int), (9223372036854775807 : Int)) = some (lo, hi) from h)); exact h5
 | 6, h => obtain ⟨rfl, rfl⟩ := Prod.mk.inj (Option.some.inj (show some ((0 : Int), (255 : Int)) = some (lo, hi) from h)); exact h6
 | 7, h => obtain ⟨rfl, rfl⟩ := Prod.mk.inj (Option.some.inj (show some ((0 : Int), (255 : Int)) = some (lo, hi) from h)); exact h7
 | 8, h => obtain ⟨rfl, rfl⟩ := Prod.mk.inj (Option.some.inj (show some ((0 : Int), (255 : Int)) = some (lo, hi) from h)); exact h8
 | 9, h => obtain ⟨rfl, rfl⟩ := Prod.mk.inj (Option.some.inj (show some ((0 : Int), (1 : Int)) = some (lo, hi) from h)); exact b2i_r _
 | 10, h => obtain ⟨rfl, rfl⟩ := Prod.mk.inj (Option.some.inj (show some ((0 : Int), (1 : Int)) = some (lo, hi) from h)); exact b2i_r _
 | 11, h => obtain ⟨rfl, rfl⟩ := Prod.mk.inj (Option.some.inj (show some ((0 : Int), (255 : Int)) = some (lo, hi) from h)); exact j0
 | 12, h => obtain ⟨rfl, rfl⟩ := Prod.mk.inj (Option.some.inj (show some ((0 : Int), (255 : Int)) = some (lo, hi) from h)); exact j1
 | 13, h => obtain ⟨rfl, rfl⟩ := Prod.mk.inj (Option.some.inj (show some ((0 : Int), (65535 : Int)) = some (lo, hi) from h)); exact j2
 | 14, h => obtain ⟨rfl, rfl⟩ := Prod.mk.inj (Option.some.inj (show some ((0 : Int), (65535 : Int)) = some (lo, hi) from h)); exact j3
 | 15, h => obtain ⟨rfl, rfl⟩ := Prod.mk.inj (Option.some.inj (show some ((0 : Int), (65535 : Int)) = some (lo, hi) from h)); exact j4
 | 16, h => obtain ⟨rfl, rfl⟩ := Prod.mk.inj (Option.some.inj (show some ((0 : Int), (300 : Int)) = some (lo, hi) from h)); exact ⟨show (0 : Int) ≤ (N.dn : Int) by omega, show (N.dn : Int) ≤ 300 by omega⟩
 | 17, h => obtain ⟨rfl, rfl⟩ := Prod.mk.inj (Option.some.inj (show some ((-9223372036854775808 : Int), (9223372036854775807 : Int)) = some (lo, hi) from h)); exact j6
 | 18, h => obtain ⟨rfl, rfl⟩ := Prod.mk.inj (Option.some.inj (show some ((0 : Int), (1 : Int)) = some (lo, hi) from h)); exact b2i_r _
 | 19, h => obtain ⟨rfl, rfl⟩ := Prod.mk.inj (Option.some.inj (show some ((0 : Int), (9223372036854775807 : Int)) = some (lo, hi) from h)); exact ⟨show (0 : Int) ≤ (N.pn : Int) by omega, show (N.pn : Int) ≤ 9223372036854775807 by omega⟩
 | 20, h => obtain ⟨rfl, rfl⟩ := Prod.mk.inj (Option.some.inj (show some ((-9223372036854775808 : Int), (9223372036854775807 : Int)) = some (lo, hi) from h)); exact j7
 | 21, h => obtain ⟨rfl, rfl⟩ := Prod.mk.inj (Option.some.inj (show some ((0 : Int), (1 : Int)) = some (lo, hi) from h)); exact b2i_r _
 | i + 22, h => exact absurd (show (none : Option (Int × Int)) = some (lo, hi) from h) (by simp)
end Go.Proofs.YtiajboiobjfcoaaGreatDoor

namespace Go.Proofs.YtiajboiobjfcoaaGreatDoor
open Go.Sy Go.RowKit
set_option maxRecDepth 1000000
def Ret (f : FuncId) (args : Array Value) (v : Value) : Prop := ∀ w, Calls Tryz.prog f args w fun e w' => e = .returned v ∧ Below w.heap.size w w'
theorem strange_ret {N : Nums} {D P : Value} {c : Cx} (hN : N.R) (h : Ctx N D P c) : Ret 22 #[N.J D P, N.P] (.bool (fStr.den N.rho)) := by
 intro w
 have hq := rng_ok hN (k := (0, 255)) (n := (0, 9223372036854775807)) hN.1.2.2.1 ⟨by simp, by have := hN.2.2; simp; omega⟩ (cs := []) (fun _ h => nomatch h)
 rw [← h.rho] at hq ⊢
 refine (con_runC plain kw0_ok (h.mem w) h.glob h.wr hq (VRs.cons h.job (VRs.cons h.pipe VRs.nil)) s_run).mono ?_
 rintro e w' ⟨r, c', y, hc, hp, rfl, hv, hρ, hbel⟩
 exact ⟨by rw [forQ_ok hc (hρ ▸ hp) hv, hρ], hbel⟩
theorem great_ret {N : Nums} {D P : Value} {c : Cx} (hN : N.R) (h : Ctx N D P c) (hp0 : N.pn = 0) : Ret 23 #[N.J D P, N.P] (.bool (fLim.den N.rho)) := by
 intro w
 have hq := rng_ok hN (k := (0, 255)) (n := (0, 0)) hN.1.2.2.1 ⟨by simp, by simp [hp0]⟩ (cs := []) (fun _ h => nomatch h)
 rw [← h.rho] at hq ⊢
 refine (con_runC plain kw0_ok (h.mem w) h.glob h.wr hq (VRs.cons h.job (VRs.cons h.pipe VRs.nil)) g_run0).mono ?_
 rintro e w' ⟨r, c', y, hc, hp, rfl, hv, hρ, hbel⟩
 exact ⟨by rw [forQ_ok hc (hρ ▸ hp) hv, hρ], hbel⟩
end Go.Proofs.YtiajboiobjfcoaaGreatDoor
