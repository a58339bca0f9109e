/-
  What is proved here: the errors of strange, great, begun and Begin, as calls.
  Conditions: the fields lie in their types' ranges; whether the pipe is valid.
-/
import Derived.Test.YthapmkbeolbmiaaGreatDoorQCtx
namespace Go.Proofs.YthapmkbeolbmiaaGreatDoor
open Go.Sy Go.RowKit

set_option maxRecDepth 1000000

/-- a call returns a value, and leaves what was there -/
def Ret (f : FuncId) (args : Array Value) (v : Value) : Prop := ∀ w, Calls Tryz.prog f args w fun e w' => e = .returned v ∧ Below w.heap.size w w'

theorem strange_ret {N : Nums} {D P : Value} {c : Cx} (hN : N.R) (h : Ctx N D P c) : Ret 60 #[N.J D P, N.P] (.bool (fStr.den N.rho)) := by
  intro w
  have hq := rng_ok hN (k := (0, 255)) (n := (0, 9223372036854775807)) hN.1.2.2.1 ⟨by simp, by have := hN.2.2; simp; omega⟩ (cs := []) (fun _ h => nomatch h)
  rw [← h.rho] at hq ⊢
  refine (con_runC plain kw0_ok (h.mem w) h.glob h.wr hq (VRs.cons h.job (VRs.cons h.pipe VRs.nil)) s_run).mono ?_
  rintro e w' ⟨r, c', y, hc, hp, rfl, hv, hρ, hbel⟩
  exact ⟨by rw [forQ_ok hc (hρ ▸ hp) hv, hρ], hbel⟩

theorem great_ret {N : Nums} {D P : Value} {c : Cx} (hN : N.R) (h : Ctx N D P c) (hp0 : N.pn = 0) : Ret 61 #[N.J D P, N.P] (.bool (fLim.den N.rho)) := by
  intro w
  have hq := rng_ok hN (k := (0, 255)) (n := (0, 0)) hN.1.2.2.1 ⟨by simp, by simp [hp0]⟩ (cs := []) (fun _ h => nomatch h)
  rw [← h.rho] at hq ⊢
  refine (con_runC plain kw0_ok (h.mem w) h.glob h.wr hq (VRs.cons h.job (VRs.cons h.pipe VRs.nil)) g_run0).mono ?_
  rintro e w' ⟨r, c', y, hc, hp, rfl, hv, hρ, hbel⟩
  exact ⟨by rw [forQ_ok hc (hρ ▸ hp) hv, hρ], hbel⟩

theorem great_many {N : Nums} {D P : Value} {c : Cx} (hN : N.R) (h : Ctx N D P c) (hp0 : 256 < N.pn) : Ret 61 #[N.J D P, N.P] (.bool true) := by
  intro w
  have hq := rng_ok hN (k := (0, 255)) (n := (257, 9223372036854775807)) hN.1.2.2.1 ⟨by show (257 : Int) ≤ _; omega, by have := hN.2.2; show _ ≤ (9223372036854775807 : Int); omega⟩ (cs := []) (fun _ h => nomatch h)
  rw [← h.rho] at hq
  refine (con_runC plain kw0_ok (h.mem w) h.glob h.wr hq (VRs.cons h.job (VRs.cons h.pipe VRs.nil)) g_run1).mono ?_
  rintro e w' ⟨r, c', y, hc, hp, rfl, hv, hρ, hbel⟩
  exact ⟨by rw [litP_ok hc (hρ ▸ hp) hv], hbel⟩

/-- the error that is wanted, but for packets that are too long -/
def want (ok ha st lim : Bool) : Int := if !ok then 1 else if ha then 6 else if st then 1 else if lim then 3 else 0

theorem pipe_of {N : Nums} {c : Cx} {x : Value} (hρ : c.ρ = N.rho) (h : VR c pArg x) : x = N.P := by
  obtain ⟨xs, rfl, h0⟩ := VR.agg.1 h
  clear h
  obtain ⟨a0, r0, e0, b0, h⟩ := VRs.cons_iff.1 h0
  obtain ⟨a1, r1, e1, b1, h⟩ := VRs.cons_iff.1 h
  obtain ⟨a2, r2, e2, b2, h⟩ := VRs.cons_iff.1 h
  obtain ⟨a3, r3, e3, b3, h⟩ := VRs.cons_iff.1 h
  obtain ⟨a4, r4, e4, b4, h⟩ := VRs.cons_iff.1 h
  obtain ⟨a5, r5, e5, b5, h⟩ := VRs.cons_iff.1 h
  obtain ⟨a6, r6, e6, b6, h⟩ := VRs.cons_iff.1 h
  obtain ⟨a7, r7, e7, b7, h⟩ := VRs.cons_iff.1 h
  obtain ⟨a8, r8, e8, b8, h⟩ := VRs.cons_iff.1 h
  obtain ⟨a9, r9, e9, b9, h⟩ := VRs.cons_iff.1 h
  obtain ⟨aA, rA, eA, bA, h⟩ := VRs.cons_iff.1 h
  have h := VRs.nil_iff.1 (show VRs c [] rA from h)
  subst h
  have hb : ∀ b : Bool, (b2i b == 1) = b := by intro b; cases b <;> rfl
  have e : xs = #[a0, a1, a2, a3, a4, a5, a6, a7, a8, a9, aA] := by
    apply Array.ext'
    rw [e0, e1, e2, e3, e4, e5, e6, e7, e8, e9, eA]
  rw [e, (VR.int.1 b0).1, (VR.int.1 b1).1, VR.bool.1 b2, (VR.int.1 b3).1, (VR.int.1 b4).1, (VR.int.1 b5).1, (VR.int.1 b6).1, (VR.int.1 b7).1, (VR.int.1 b8).1, VR.bool.1 b9, VR.bool.1 bA, hρ]
  show Value.agg #[.int .u8 N.ad, .int .u8 N.en, .bool (b2i N.inn == 1), .int .u8 N.k, .int .i64 N.mx, .int .i64 N.per, .int .u8 N.sp, .int .u8 N.hu, .int .u8 N.po, .bool (b2i N.tg == 1), .bool (b2i N.ha == 1)] = _
  rw [hb, hb, hb]
  rfl

theorem kwE_ok {N : Nums} (hc : Ret 21 #[N.P] (.int .i64 (if N.ok then 0 else 1))) (hv : Ret 22 #[N.P] (.bool N.ok)) : KwOK Tryz.prog N.rho kwE := by
  refine kwArgs_ok (callable plain (by kernel_rfl)) (kwArgs_ok (callable plain (by kernel_rfl)) kw0_ok ?_) ?_
  · intro c args w hρ hl
    obtain ⟨x, ys, e, hx, hl⟩ := VRs.cons_iff.1 hl
    rw [VRs.nil_iff] at hl
    subst hl
    have : args = #[N.P] := by apply Array.ext'; rw [e, pipe_of hρ hx]
    subst this
    refine (hc w).mono ?_
    rintro e w' ⟨rfl, hb⟩
    refine ⟨_, rfl, fun c' hρ' => VR.int.2 ?_, hb⟩
    have e21 : c'.ρ 21 = b2i N.ok := by rw [hρ']; rfl
    have : (E.bin .sub .i64 (.n 1) (.x 21)).den c'.ρ = (if N.ok then 0 else 1) := by
      have hb := b2i_r N.ok
      rw [den_less (by show -9223372036854775808 ≤ 1 - c'.ρ 21; omega) (by show 1 - c'.ρ 21 ≤ 9223372036854775807; omega)]
      show 1 - c'.ρ 21 = _
      rw [e21]; cases N.ok <;> rfl
    rw [this]
    refine ⟨rfl, ?_⟩
    cases N.ok <;> decide
  · intro c args w hρ hl
    obtain ⟨x, ys, e, hx, hl⟩ := VRs.cons_iff.1 hl
    rw [VRs.nil_iff] at hl
    subst hl
    have : args = #[N.P] := by apply Array.ext'; rw [e, pipe_of hρ hx]
    subst this
    refine (hv w).mono ?_
    rintro e w' ⟨rfl, hb⟩
    exact ⟨_, rfl, fun c' hρ' => vr_bool (by rw [hρ']; rfl), hb⟩

theorem ok_den (N : Nums) : fOkv.den N.rho = N.ok := by show (b2i N.ok == 1) = N.ok; cases N.ok <;> rfl
theorem ha_den (N : Nums) : fHa.den N.rho = N.ha := by show (b2i N.ha == 1) = N.ha; cases N.ha <;> rfl

theorem begun_part {N : Nums} {D P : Value} {c : Cx} (hN : N.R) (h : Ctx N D P c) (hc : Ret 21 #[N.P] (.int .i64 (if N.ok then 0 else 1))) (hv : Ret 22 #[N.P] (.bool N.ok))
    {k n : Int × Int} {cs : List (B × Bool)} (hk : k.1 ≤ N.k ∧ N.k ≤ k.2) (hn : n.1 ≤ (N.pn : Int) ∧ (N.pn : Int) ≤ n.2) (hcs : ∀ c ∈ cs, c.1.den N.rho = c.2)
    (hrun : allChk chkE (evFn Tryz.prog kwE 10 20 24 [pArg, jArg] jMem (ePc cs k n)) = true) :
    Ret 24 #[N.P, N.J D P] (.int .i64 (want N.ok N.ha (fStr.den N.rho) (fLim.den N.rho))) := by
  intro w
  have hq := rng_ok hN hk hn hcs
  have hkw := kwE_ok hc hv
  rw [← h.rho] at hq hkw
  refine (con_runC plain hkw (h.mem w) h.glob h.wr hq (VRs.cons h.pipe (VRs.cons h.job VRs.nil)) hrun).mono ?_
  rintro e w' ⟨r, c', y, hc, hp, rfl, hv, hρ, hbel⟩
  refine ⟨?_, hbel⟩
  rw [h.rho] at hp
  have e1 := ok_den N
  have e2 := ha_den N
  rcases orB_ok (show orB _ _ = true from hc) with g | g
  · obtain ⟨g1, g2⟩ := andB_ok g
    rw [litI_ok g1 hv]
    have g2 := BF.is_ok hp g2
    simp only [fE1, BF.den, ok_den, ha_den] at g2
    unfold want
    revert g2
    cases N.ok <;> cases N.ha <;> cases fStr.den N.rho <;> simp
  rcases orB_ok g with g | g
  · obtain ⟨g1, g2⟩ := andB_ok g
    rw [litI_ok g1 hv]
    have g2 := BF.is_ok hp g2
    simp only [fE6, BF.den, ok_den, ha_den] at g2
    unfold want
    revert g2
    cases N.ok <;> cases N.ha <;> simp
  rcases orB_ok g with g | g
  · obtain ⟨g1, g2⟩ := andB_ok g
    rw [litI_ok g1 hv]
    have g2 := BF.is_ok hp g2
    simp only [fE3, BF.den, ok_den, ha_den] at g2
    unfold want
    revert g2
    cases N.ok <;> cases N.ha <;> cases fStr.den N.rho <;> cases fLim.den N.rho <;> simp
  · obtain ⟨g1, g2⟩ := andB_ok g
    rw [litI_ok g1 hv]
    have g2 := BF.is_ok hp g2
    simp only [fE0, BF.den, ok_den, ha_den] at g2
    unfold want
    revert g2
    cases N.ok <;> cases N.ha <;> cases fStr.den N.rho <;> cases fLim.den N.rho <;> simp

/-- the job of a pipe that sends packets, but for what it does not use -/
def Bare (N : Nums) : Prop := N.ok = true ∧ N.ha = false ∧ N.k = 1 ∧ N.inn = false ∧ (1 ≤ N.pn ∧ N.pn ≤ 256) ∧ N.t = 0 ∧ N.c = 0 ∧ N.v = 0 ∧ N.i = 0 ∧ N.l = 0 ∧ N.dn = 0 ∧ N.len = 0 ∧ N.z = false ∧ N.m = 0

theorem begun_ret {N : Nums} {D P : Value} {c : Cx} (hN : N.R) (h : Ctx N D P c) (hc : Ret 21 #[N.P] (.int .i64 (if N.ok then 0 else 1))) (hv : Ret 22 #[N.P] (.bool N.ok)) :
    Bare N ∨ Ret 24 #[N.P, N.J D P] (.int .i64 (want N.ok N.ha (fStr.den N.rho) (fLim.den N.rho))) := by
  have hk := hN.1.2.2.1
  have hpn := hN.2.2
  have part := fun {k n : Int × Int} {cs : List (B × Bool)} (hk) (hn) (hcs) (hrun) => begun_part (k := k) (n := n) (cs := cs) hN h hc hv hk hn hcs hrun
  have hnil : ∀ x ∈ ([] : List (B × Bool)), x.1.den N.rho = x.2 := fun _ h => nomatch h
  by_cases h0 : N.pn = 0
  · exact .inr (part (k := (0, 255)) (n := (0, 0)) hk ⟨by simp, by simp [h0]⟩ hnil e_run0)
  have hn1 : (1, 9223372036854775807).1 ≤ (N.pn : Int) ∧ (N.pn : Int) ≤ ((1 : Int), (9223372036854775807 : Int)).2 := ⟨by show (1 : Int) ≤ _; omega, by show _ ≤ (9223372036854775807 : Int); omega⟩
  by_cases k0 : N.k = 0
  · exact .inr (part (k := (0, 0)) ⟨by simp [k0], by simp [k0]⟩ hn1 hnil e_run1)
  by_cases k2 : 2 ≤ N.k
  · exact .inr (part (k := (2, 255)) ⟨k2, hk.2⟩ hn1 hnil e_run2)
  have k1 : N.k = 1 := by omega
  have hk1 : ((1 : Int), (1 : Int)).1 ≤ N.k ∧ N.k ≤ ((1 : Int), (1 : Int)).2 := ⟨by simp [k1], by simp [k1]⟩
  by_cases hin : N.inn = true
  · exact .inr (part hk1 hn1 (fun x hx => by obtain rfl := List.mem_singleton.1 hx; show (b2i N.inn == 1) = true; rw [hin]; rfl) e_run3)
  have hin : N.inn = false := by simpa using hin
  have iso : ∀ {cs : List (B × Bool)} {n : Int × Int}, isoRun cs n = true → n.1 ≤ (N.pn : Int) ∧ (N.pn : Int) ≤ n.2 → (∀ x ∈ cs, x.1.den N.rho = x.2) → Ret 24 #[N.P, N.J D P] (.int .i64 (want N.ok N.ha (fStr.den N.rho) (fLim.den N.rho))) := by
    intro cs n hrun hn hcs
    refine part hk1 hn (fun x hx => ?_) hrun
    rcases List.mem_cons.1 hx with rfl | hx
    · show (b2i N.inn == 1) = false; rw [hin]; rfl
    · exact hcs x hx
  by_cases h256 : 256 < N.pn
  · exact .inr (iso i_many ⟨by show (257 : Int) ≤ _; omega, by show _ ≤ (9223372036854775807 : Int); omega⟩ hnil)
  have hn2 : ((1 : Int), (256 : Int)).1 ≤ (N.pn : Int) ∧ (N.pn : Int) ≤ ((1 : Int), (256 : Int)).2 := ⟨by show (1 : Int) ≤ _; omega, by show _ ≤ (256 : Int); omega⟩
  have one : ∀ {x : B} {b : Bool}, isoRun [(x, b)] (1, 256) = true → x.den N.rho = b → Ret 24 #[N.P, N.J D P] (.int .i64 (want N.ok N.ha (fStr.den N.rho) (fLim.den N.rho))) := fun hr hx => iso hr hn2 (fun y hy => by obtain rfl := List.mem_singleton.1 hy; exact hx)
  by_cases hok : N.ok = true
  rotate_left
  · exact .inr (one i_ok (by show (b2i N.ok == 1) = false; rw [show N.ok = false by simpa using hok]; rfl))
  by_cases hha : N.ha = true
  · exact .inr (iso i_ha hn2 (fun y hy => by
      rcases List.mem_cons.1 hy with rfl | hy
      · show (b2i N.ok == 1) = true; rw [hok]; rfl
      · obtain rfl := List.mem_singleton.1 hy
        show (b2i N.ha == 1) = true; rw [hha]; rfl))
  have hha : N.ha = false := by simpa using hha
  by_cases a11 : N.t = 0
  rotate_left
  · exact .inr (one i_11 (by show (N.t == 0) = false; simpa using a11))
  by_cases a12 : N.c = 0
  rotate_left
  · exact .inr (one i_12 (by show (N.c == 0) = false; simpa using a12))
  by_cases a13 : N.v = 0
  rotate_left
  · exact .inr (one i_13 (by show (N.v == 0) = false; simpa using a13))
  by_cases a14 : N.i = 0
  rotate_left
  · exact .inr (one i_14 (by show (N.i == 0) = false; simpa using a14))
  by_cases a15 : N.l = 0
  rotate_left
  · exact .inr (one i_15 (by show (N.l == 0) = false; simpa using a15))
  by_cases a16 : N.dn = 0
  rotate_left
  · exact .inr (one i_16 (by show decide ((0 : Int) < (N.dn : Int)) = true; simp; omega))
  by_cases a17 : N.len < 0
  · exact .inr (one i_17a (by show decide (N.len < 0) = true; simpa using a17))
  by_cases b17 : 0 < N.len
  · exact .inr (one i_17b (by show decide (0 < N.len) = true; simpa using b17))
  by_cases a18 : N.z = true
  · exact .inr (one i_18 (by show (b2i N.z == 1) = true; rw [a18]; rfl))
  have a18 : N.z = false := by simpa using a18
  by_cases a20 : N.m < 0
  · exact .inr (one i_20a (by show decide (N.m < 0) = true; simpa using a20))
  by_cases b20 : 0 < N.m
  · exact .inr (one i_20b (by show decide (0 < N.m) = true; simpa using b20))
  exact .inl ⟨hok, hha, k1, hin, ⟨by omega, by omega⟩, a11, a12, a13, a14, a15, a16, by omega, a18, by omega⟩
end Go.Proofs.YthapmkbeolbmiaaGreatDoor
