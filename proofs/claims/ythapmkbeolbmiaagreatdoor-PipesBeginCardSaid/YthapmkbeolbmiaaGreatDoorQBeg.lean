/-
  What is proved here: what pipes.Begin returns where there is an error, and what Next makes of that; pipes.Clear.
  Conditions: what strange and great return.
-/
import Derived.Test.YthapmkbeolbmiaaGreatDoorQWant
namespace Go.Proofs.YthapmkbeolbmiaaGreatDoor
open Go.Sy Go.RowKit

set_option maxRecDepth 1000000

theorem litCell_ok {c c' : Cx} {v : V} {x : Value} (h : (∃ b, v = .bool (.lit b)) ∨ (∃ k z, v = .int k (.n z)) ∨ v = .nilSlice) (hv : VR c v x) : VR c' v x := by
  rcases h with ⟨b, rfl⟩ | ⟨k, z, rfl⟩ | rfl
  · rw [VR.bool] at hv ⊢; exact hv
  · rw [VR.int] at hv ⊢; exact hv
  · rw [VR.nilSlice] at hv ⊢; exact hv
theorem litCells_ok {c c' : Cx} : ∀ {l : List V} {xs : List Value}, (∀ v ∈ l, (∃ b, v = .bool (.lit b)) ∨ (∃ k z, v = .int k (.n z)) ∨ v = .nilSlice) → VRs c l xs → VRs c' l xs
  | [], xs, _, h => by rw [VRs.nil_iff] at h ⊢; exact h
  | v :: l, xs, hl, h => by
    obtain ⟨x, ys, rfl, h1, h2⟩ := VRs.cons_iff.1 h
    exact VRs.cons (litCell_ok (hl v (.head _)) h1) (litCells_ok (fun u hu => hl u (.tail _ hu)) h2)

/-- no work, as a value -/
def NoWork (W : Value) : Prop := ∀ c, VR c zWork W
theorem noWork_of {c : Cx} {W : Value} (h : VR c zWork W) : NoWork W := by
  intro c'
  obtain ⟨xs, rfl, h2⟩ := VR.agg.1 (show VR c (.agg _) W from h)
  refine VR.agg.2 ⟨xs, rfl, litCells_ok (fun v hv => ?_) h2⟩
  simp only [List.mem_cons, List.not_mem_nil, or_false] at hv
  rcases hv with h | h | h | h | h | h | h | h | h | h | h | h | h | h | h | h | h | h | h | h | h | h | h | h | h | h | h | h | h | h | h | h | h | h | h | h | h | h | h | h | h | h | h | h | h | h | h
  all_goals
    subst h
    first
      | exact .inl ⟨_, rfl⟩
      | exact .inr (.inl ⟨_, _, rfl⟩)
      | exact .inr (.inr rfl)

theorem next_none {W : Value} (h : NoWork W) (w : World) : Calls Tryz.prog 26 #[W] w fun e w' => ∃ t, e = .returned (.tuple #[t, .bool false]) ∧ Below w.heap.size w w' := by
  refine (con_run plain (ρ := fun _ => 0) (bs := fun _ => 0) (g := []) kw0_ok pc0_ok (VRs.cons (h _) VRs.nil) (fun _ x hx => nomatch hx) n_run).mono ?_
  rintro e w' ⟨r, c', y, hc, hp, rfl, hv, hρ, hbel⟩
  rw [eqVV_ok _ _ hc] at hv
  obtain ⟨xs, rfl, h2⟩ := VR.tuple.1 hv
  obtain ⟨a, ys, e, _, h3⟩ := VRs.cons_iff.1 h2
  obtain ⟨b, zs, e', h4, h5⟩ := VRs.cons_iff.1 h3
  rw [VRs.nil_iff] at h5
  subst h5 e'
  have : xs = #[a, b] := by apply Array.ext'; exact e
  subst this
  rw [VR.bool] at h4
  subst h4
  exact ⟨a, rfl, hbel⟩

theorem slz_of {c : Cx} {i x n : Nat} {v : Value} {z : Bool} (h : VR c (.sarr i 1 (.x x)) v) (hx : c.ρ x = (n : Int)) (hz : c.ρ (rowVar (i - 4096) 63 0) = b2i z) : SlZ v n z := by
  obtain ⟨_, m, cap, e, hm, h⟩ := VR.sarr.1 h
  have e : (n : Int) = (m : Int) := hx ▸ e
  obtain rfl : n = m := by omega
  refine ⟨hm, cap, ?_⟩
  rcases h with ⟨h1, rfl⟩ | ⟨rfl, a, rfl, ha⟩
  · exact .inl ⟨h1, _, _, rfl⟩
  · refine .inr ⟨rfl, a, rfl, ?_⟩
    rw [hz] at ha
    cases a <;> cases z <;> simp [b2i] at ha ⊢

theorem job_of {N : Nums} {c : Cx} {x : Value} (hρ : c.ρ = N.rho) (h : VR c jArg x) : ∃ D P, x = N.J D P ∧ SlZ D N.dn N.dz ∧ SlZ P N.pn N.pz := by
  obtain ⟨xs, rfl, h0⟩ := VR.agg.1 h
  clear h
  obtain ⟨a0, r0, e0, b0, h⟩ := VRs.cons_iff.1 h0
  obtain ⟨a1, r1, e1, b1, h⟩ := VRs.cons_iff.1 h
  obtain ⟨a2, r2, e2, b2, h⟩ := VRs.cons_iff.1 h
  obtain ⟨a3, r3, e3, b3, h⟩ := VRs.cons_iff.1 h
  obtain ⟨a4, r4, e4, b4, h⟩ := VRs.cons_iff.1 h
  obtain ⟨a5, r5, e5, b5, h⟩ := VRs.cons_iff.1 h
  obtain ⟨a6, r6, e6, b6, h⟩ := VRs.cons_iff.1 h
  obtain ⟨a7, r7, e7, b7, h⟩ := VRs.cons_iff.1 h
  obtain ⟨a8, r8, e8, b8, h⟩ := VRs.cons_iff.1 h
  obtain ⟨a9, r9, e9, b9, h⟩ := VRs.cons_iff.1 h
  have h := VRs.nil_iff.1 (show VRs c [] r9 from h)
  subst h
  have e : xs = #[a0, a1, a2, a3, a4, a5, a6, a7, a8, a9] := by
    apply Array.ext'
    rw [e0, e1, e2, e3, e4, e5, e6, e7, e8, e9]
  have hb : ∀ b : Bool, (b2i b == 1) = b := by intro b; cases b <;> rfl
  refine ⟨a5, a8, ?_, slz_of b5 (by rw [hρ]; rfl) (by rw [hρ]; rfl), slz_of b8 (by rw [hρ]; rfl) (by rw [hρ]; rfl)⟩
  rw [e, (VR.int.1 b0).1, (VR.int.1 b1).1, (VR.int.1 b2).1, (VR.int.1 b3).1, (VR.int.1 b4).1, (VR.int.1 b6).1, VR.bool.1 b7, (VR.int.1 b9).1, hρ]
  show Value.agg #[.int .u8 N.t, .int .u8 N.c, .int .u16 N.v, .int .u16 N.i, .int .u16 N.l, a5, .int .i64 N.len, .bool (b2i N.z == 1), a8, .int .i64 N.m] = _
  rw [hb]
  rfl

/-- a call of j and p: known for every such job -/
theorem kwJ_ok {N : Nums} {f : FuncId} {b : Bool} {i : Nat} {r : Kw} (hf : Callable Tryz.prog f) (hr : KwOK Tryz.prog N.rho r) (hi : N.rho i = b2i b)
    (h : ∀ D P, SlZ D N.dn N.dz → SlZ P N.pn N.pz → Ret f #[N.J D P, N.P] (.bool b)) : KwOK Tryz.prog N.rho (kwArgs f [jArg, pArg] (.bool (.eq (.x i) (.n 1))) r) := by
  refine kwArgs_ok hf hr ?_
  intro c args w hρ hl
  obtain ⟨x, ys, e, hx, hl⟩ := VRs.cons_iff.1 hl
  obtain ⟨y, zs, e', hy, hl⟩ := VRs.cons_iff.1 hl
  rw [VRs.nil_iff] at hl
  subst hl e'
  obtain ⟨D, P, rfl, hD, hP⟩ := job_of hρ hx
  have : args = #[N.J D P, N.P] := by apply Array.ext'; rw [e, pipe_of hρ hy]
  subst this
  refine (h D P hD hP w).mono ?_
  rintro e w' ⟨rfl, hb⟩
  exact ⟨_, rfl, fun c' hρ' => vr_bool (by rw [hρ', hi]), hb⟩

/-- Begin has an error: no work -/
def BegErr (N : Nums) (D P : Value) (z : Int) : Prop := ∀ w, Calls Tryz.prog 25 #[N.P, N.J D P] w fun e w' => ∃ W, e = .returned (.tuple #[W, .int .i64 z]) ∧ NoWork W ∧ Below w.heap.size w w'

theorem begin_part {N : Nums} {D P : Value} {c : Cx} (hN : N.R) (h : Ctx N D P c) {kw : Kw} (hkw : KwOK Tryz.prog N.rho kw) {cs : List (B × Bool)} {e : E} {z : Int} (hcs : ∀ c ∈ cs, c.1.den N.rho = c.2) (hz : e.den N.rho = z) (hrun : bRun kw cs e = true) : BegErr N D P z := by
  intro w
  have hq := rng_ok hN (k := (0, 255)) (n := (0, 9223372036854775807)) hN.1.2.2.1 ⟨by simp, by have := hN.2.2; simp; omega⟩ hcs
  rw [← h.rho] at hq hkw
  refine (con_runC plain hkw (h.mem w) h.glob h.wr hq (VRs.cons h.pipe (VRs.cons h.job VRs.nil)) hrun).mono ?_
  rintro e w' ⟨r, c', y, hc, hp, rfl, hv, hρ, hbel⟩
  rw [eqVV_ok _ _ hc] at hv
  obtain ⟨xs, rfl, h2⟩ := VR.tuple.1 hv
  obtain ⟨a, ys, e, h3, h4⟩ := VRs.cons_iff.1 h2
  obtain ⟨b, zs, e', h5, h6⟩ := VRs.cons_iff.1 h4
  rw [VRs.nil_iff] at h6
  subst h6 e'
  have : xs = #[a, b] := by apply Array.ext'; exact e
  subst this
  rw [(VR.int.1 h5).1, hρ, h.rho, hz]
  exact ⟨a, rfl, noWork_of h3, hbel⟩

theorem begin_err {N : Nums} {D P : Value} {c : Cx} (hN : N.R) (h : Ctx N D P c) (hc : Ret 21 #[N.P] (.int .i64 (if N.ok then 0 else 1))) (hv : Ret 22 #[N.P] (.bool N.ok))
    (hst : N.st = fStr.den N.rho) :
    (N.ok = false → BegErr N D P 1) ∧ (N.ok = true → N.ha = true → BegErr N D P 6) ∧ (N.ok = true → N.ha = false → N.st = true → BegErr N D P 1) ∧
      (N.ok = true → N.ha = false → N.st = false → (N.pn = 0 ∧ N.gr = fLim.den N.rho ∨ 256 < N.pn ∧ N.gr = true) → N.gr = true → BegErr N D P 3) := by
  have hS : KwOK Tryz.prog N.rho kwS := kwJ_ok (callable plain (by kernel_rfl)) (kwE_ok hc hv) rfl fun D P hD hP => by
    obtain ⟨c', h'⟩ := ctx hN hD hP
    rw [hst]; exact strange_ret hN h'
  have d21 : ∀ b, N.ok = b → okB.den N.rho = b := fun b hb => by show (b2i N.ok == 1) = b; rw [hb]; cases b <;> rfl
  have d10 : ∀ b, N.ha = b → (B.eq (.x 10) (.n 1)).den N.rho = b := fun b hb => by show (b2i N.ha == 1) = b; rw [hb]; cases b <;> rfl
  have d22 : ∀ b, N.st = b → (B.eq (.x 22) (.n 1)).den N.rho = b := fun b hb => by show (b2i N.st == 1) = b; rw [hb]; cases b <;> rfl
  have d23 : ∀ b, N.gr = b → (B.eq (.x 23) (.n 1)).den N.rho = b := fun b hb => by show (b2i N.gr == 1) = b; rw [hb]; cases b <;> rfl
  refine ⟨fun h1 => ?_, fun h1 h2 => ?_, fun h1 h2 h3 => ?_, fun h1 h2 h3 h4 h5 => ?_⟩
  · refine begin_part hN h hS (fun x hx => by obtain rfl := List.mem_singleton.1 hx; exact d21 _ h1) ?_ b_1
    have e21 : N.rho 21 = 0 := by show b2i N.ok = 0; rw [h1]; rfl
    rw [den_less (by show -9223372036854775808 ≤ 1 - N.rho 21; omega) (by show 1 - N.rho 21 ≤ 9223372036854775807; omega)]
    show 1 - N.rho 21 = 1
    omega
  · refine begin_part hN h hS (fun x hx => ?_) rfl b_6
    rcases List.mem_cons.1 hx with rfl | hx
    · exact d21 _ h1
    · obtain rfl := List.mem_singleton.1 hx; exact d10 _ h2
  · refine begin_part hN h hS (fun x hx => ?_) rfl b_1'
    rcases List.mem_cons.1 hx with rfl | hx
    · exact d21 _ h1
    rcases List.mem_cons.1 hx with rfl | hx
    · exact d10 _ h2
    · obtain rfl := List.mem_singleton.1 hx; exact d22 _ h3
  · have hF : KwOK Tryz.prog N.rho kwF := kwJ_ok (callable plain (by kernel_rfl)) hS rfl fun D P hD hP => by
      obtain ⟨c', h'⟩ := ctx hN hD hP
      rcases h4 with ⟨g1, g2⟩ | ⟨g1, g2⟩
      · rw [g2]; exact great_ret hN h' g1
      · rw [g2]; exact great_many hN h' g1
    refine begin_part hN h hF (fun x hx => ?_) rfl b_3
    rcases List.mem_cons.1 hx with rfl | hx
    · exact d21 _ h1
    rcases List.mem_cons.1 hx with rfl | hx
    · exact d10 _ h2
    rcases List.mem_cons.1 hx with rfl | hx
    · exact d22 _ h3
    · obtain rfl := List.mem_singleton.1 hx; exact d23 _ h5
end Go.Proofs.YthapmkbeolbmiaaGreatDoor
