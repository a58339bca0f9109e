/-
  What is proved here: what pipes.Stop returns for a stream OUT.
  Conditions: the laid map.
-/
import Derived.Test.YtiajboiobjfcoaaGreatDoorOBeg
import Derived.Test.YtiajboiobjfcoaaGreatDoorRows
namespace Go.Proofs.YtiajboiobjfcoaaGreatDoor
open Go.Proofs Go.RowKit Go.Sy
set_option maxRecDepth 1000000
def stLaid : List (String × DataW Unit) := Rows.pipesOutRow.laid
noncomputable def stG : List (Nat × List V) := (laidG Tryz.prog 0 stLaid).getD []
def cL (bs : Nat → Nat) (ρ : Nat → Int) (d : Nat × Nat) : Cx := ⟨fun i => if i < 4096 then (if i < 3072 then i else bs (i - 3072), 0) else d, fun _ => 0, ρ, 4097, 0, fun i => i < 4097, fun _ h => h⟩
noncomputable def memL (g : List (Nat × List V)) : Mem := ⟨layG g, 4097, .nil, 0⟩
theorem cx0_cL (bs : Nat → Nat) (ρ : Nat → Int) (d : Nat × Nat) : (cx0 bs ρ).leN 4096 (cL bs ρ d) :=
 ⟨rfl, by show 4096 ≤ 4097; omega, Nat.le_refl _, fun i h => by show i < 4097; have : i < 4096 := h; omega, fun i hi _ => hi, fun i h => by
  have h : i < 4096 := h
  show (if i < 4096 then (if i < 3072 then i else bs (i - 3072), 0) else d) = _
  rw [if_pos h]
  rfl, fun i h => rfl⟩
theorem memL_ok {bs : Nat → Nat} {ρ : Nat → Int} {g : List (Nat × List V)} {w : World} (d : Nat × Nat) (h : LaidAs bs w g) : MemR (cL bs ρ d) (memL g) w := by
 refine ⟨rfl, rfl, ?_, ?_, ?_⟩
 ·intro i b hb
  obtain ⟨l, h1, rfl⟩ := layG_get (show (layG g).get i = some b from hb)
  obtain ⟨h2, h3⟩ := h ρ _ h1
  refine lyB_has (by show i < 4097; have : i < 4096 := h2; omega) ?_
  have e : (cL bs ρ d).β i = (cx0 bs ρ).β i := (cx0_cL bs ρ d).β i h2
  rw [e]
  exact h3.mono (cx0_cL bs ρ d)
 ·intro i j b b' hb hb' hij hap _ _
  obtain ⟨l, h1, rfl⟩ := layG_get (show (layG g).get i = some b from hb)
  obtain ⟨l', h2, rfl⟩ := layG_get (show (layG g).get j = some b' from hb')
  unfold Blk.apt at hap
  rw [(lyB_wr _).1, (lyB_wr _).2, (lyB_wr _).1] at hap
  exact absurd hap (by simp)
 ·intro t n h
  simp [memL, Tr.get] at h
theorem globL {bs : Nat → Nat} {ρ : Nat → Int} {d : Nat × Nat} : GlobR (cL bs ρ d) := ⟨show 4096 ≤ 4097 by omega, fun i h => ⟨show i < 4097 by omega, by
 show (if i < 4096 then (if i < 3072 then i else bs (i - 3072), 0) else d) = (i, 0)
 rw [if_pos (by omega), if_pos h]⟩⟩
theorem memL_wr {bs : Nat → Nat} {ρ : Nat → Int} {d : Nat × Nat} {g : List (Nat × List V)} : ∀ b, ¬ Wr (cL bs ρ d) (memL g) b := by
 rintro b ⟨i, blk, h1, h2, _⟩
 obtain ⟨l, _, rfl⟩ := layG_get (show (layG g).get i = some blk from h1)
 rw [(lyB_wr _).1] at h2
 simp at h2
noncomputable def vi64 (z : Int) : V := .int .i64 (.n z)
noncomputable def vu8 (z : Int) : V := .int .u8 (.n z)
noncomputable def vB (b : Bool) : V := .bool (.lit b)
noncomputable def stArg (ov : Bool) (e : Int) : V := .agg [vB true, vu8 5, vu8 2, vB false, .int .u8 (.x 5), vi64 8, .int .i64 (.x 6), vu8 1, vu8 0, vu8 1, .bool (.eq (.x 0) (.n 1)), vB false,
 vu8 0, vu8 0, vu8 0, .int .u16 (.n 0), .int .u16 (.n 0), .int .u16 (.n 0), .nilSlice, vi64 0, vB false, vi64 0, .nilSlice, vi64 0, vi64 0,
 vB false, vu8 2, vi64 8, .bool (.eq (.x 1) (.n 1)), .nilSlice, .bool (.eq (.x 2) (.n 1)), vi64 0, .sarr 4096 1 (.x 7), .nilSlice, .int .i64 (.x 3), .int .i64 (.x 4), vB ov, vi64 e,
 vB false, vu8 0, vi64 0, .nilSlice, vi64 0, vi64 0, .nilSlice, .nilSlice, .int .i64 (.x 3)]
noncomputable def stPc (er : Int × Int) : Pc := ⟨[], [(0, 1), (0, 1), (0, 1), (0, 1000), er, (2, 3), (0, 8), (0, 1000)]⟩
noncomputable def noD (v : V) : Bool := match v with | .nilSlice => true | .slice _ _ 0 _ => true | .eslice _ _ => true | _ => false
theorem noD_ok {v : V} (h : noD v = true) {c : Cx} {x : Value} (hv : VR c v x) : ∃ A cap, x = .slice A 0 cap := by
 unfold noD at h
 split at h
 ·exact ⟨none, 0, VR.nilSlice.1 hv⟩
 ·obtain ⟨_, cap, _, _, e⟩ := VR.slice.1 hv
  exact ⟨_, cap, e⟩
 ·obtain ⟨_, o, cap, e, _⟩ := VR.eslice.1 hv
  exact ⟨_, cap, e⟩
 ·cases h
noncomputable def stopQ (inn : Bool) (e : Int) (aE : E) (hB : B) (v : V) : Bool := match v with
 | .tuple [.agg [x, D, y, P], q] => eqVV x (vi64 e) && noD D && eqVV y (.int .i64 aE) && eqVV P .nilSlice && eqVV q (.agg [vu8 5, vu8 2, vB inn, .int .u8 (.x 5), vi64 8, .int .i64 (.x 6), vu8 1, vu8 0, vu8 1, .bool (.eq (.x 1) (.n 1)), .bool hB])
 | _ => false
theorem stopQ_ok {inn : Bool} {e : Int} {aE : E} {hB : B} {v : V} (h : stopQ inn e aE hB v = true) {c : Cx} {z : Value} (hv : VR c v z) :
  ∃ A cap, z = .tuple #[.agg #[.int .i64 e, .slice A 0 cap, .int .i64 (aE.den c.ρ), .slice none 0 0], .agg (#[.int .u8 5, .int .u8 2, .bool inn, .int .u8 (c.ρ 5), .int .i64 8, .int .i64 (c.ρ 6), .int .u8 1, .int .u8 0, .int .u8 1, .bool (c.ρ 1 == 1), .bool (hB.den c.ρ)])] := by
 unfold stopQ at h
 split at h
 ·rename_i x D y P q
  simp only [Bool.and_eq_true] at h
  obtain ⟨⟨⟨⟨h1, h2⟩, h3⟩, h4⟩, h5⟩ := h
  rw [eqVV_ok _ _ h1, eqVV_ok _ _ h3, eqVV_ok _ _ h4, eqVV_ok _ _ h5] at hv
  obtain ⟨zs, rfl, hzs⟩ := VR.tuple.1 hv
  obtain ⟨t0, r0, e0, k0, hzs⟩ := VRs.cons_iff.1 hzs
  obtain ⟨t1, r1, e1, k1, hzs⟩ := VRs.cons_iff.1 hzs
  have e2 := VRs.nil_iff.1 hzs
  subst e2
  have ez : zs = #[t0, t1] := by apply Array.ext'; rw [e0, e1]
  subst ez
  obtain ⟨ws, rfl, hws⟩ := VR.agg.1 k0
  obtain ⟨a0, q0, f0, m0, hws⟩ := VRs.cons_iff.1 hws
  obtain ⟨a1, q1, f1, m1, hws⟩ := VRs.cons_iff.1 hws
  obtain ⟨a2, q2, f2, m2, hws⟩ := VRs.cons_iff.1 hws
  obtain ⟨a3, q3, f3, m3, hws⟩ := VRs.cons_iff.1 hws
  have e4 := VRs.nil_iff.1 hws
  subst e4
  have ew : ws = #[a0, a1, a2, a3] := by apply Array.ext'; rw [f0, f1, f2, f3]
  subst ew
  obtain ⟨A, cap, rfl⟩ := noD_ok h2 m1
  obtain ⟨ys, rfl, hys⟩ := VR.agg.1 k1
  obtain ⟨b0, s0, g0, n0, hys⟩ := VRs.cons_iff.1 hys
  obtain ⟨b1, s1, g1, n1, hys⟩ := VRs.cons_iff.1 hys
  obtain ⟨b2, s2, g2, n2, hys⟩ := VRs.cons_iff.1 hys
  obtain ⟨b3, s3, g3, n3, hys⟩ := VRs.cons_iff.1 hys
  obtain ⟨b4, s4, g4, n4, hys⟩ := VRs.cons_iff.1 hys
  obtain ⟨b5, s5, g5, n5, hys⟩ := VRs.cons_iff.1 hys
  obtain ⟨b6, s6, g6, n6, hys⟩ := VRs.cons_iff.1 hys
  obtain ⟨b7, s7, g7, n7, hys⟩ := VRs.cons_iff.1 hys
  obtain ⟨b8, s8, g8, n8, hys⟩ := VRs.cons_iff.1 hys
  obtain ⟨b9, s9, g9, n9, hys⟩ := VRs.cons_iff.1 hys
  obtain ⟨b10, s10, g10, n10, hys⟩ := VRs.cons_iff.1 hys
  have e5 := VRs.nil_iff.1 hys
  subst e5
  have ey : ys = #[b0, b1, b2, b3, b4, b5, b6, b7, b8, b9, b10] := by apply Array.ext'; rw [g0, g1, g2, g3, g4, g5, g6, g7, g8, g9, g10]
  refine ⟨A, cap, ?_⟩
  rw [ey, (VR.int.1 m0).1, (VR.int.1 m2).1, VR.nilSlice.1 m3, (VR.int.1 n0).1, (VR.int.1 n1).1, VR.bool.1 n2, (VR.int.1 n3).1, (VR.int.1 n4).1, (VR.int.1 n5).1, (VR.int.1 n6).1, (VR.int.1 n7).1, (VR.int.1 n8).1, VR.bool.1 n9, VR.bool.1 n10]
  rfl
 ·cases h
theorem st_run17 : allChk (fun r => stopQ false 17 (.bin .add .i64 (.n 0) (.x 3)) (.lt (.n 0) (.x 4)) r.v) (evFn Tryz.prog kw0 12 20 11 [stArg false 0] (memL stG) (stPc (0, 3))) = true := by kernel_rfl
theorem st_run0 : allChk (fun r => stopQ false 0 (.x 3) (.lit false) r.v) (evFn Tryz.prog kw0 12 20 11 [stArg true 0] (memL stG) (stPc (0, 3))) = true := by kernel_rfl
theorem st_run11 : allChk (fun r => stopQ false 11 (.x 3) (.lit true) r.v) (evFn Tryz.prog kw0 12 20 11 [stArg true 11] (memL stG) (stPc (0, 3))) = true := by kernel_rfl
theorem st_run12 : allChk (fun r => stopQ false 12 (.x 3) (.lit true) r.v) (evFn Tryz.prog kw0 12 20 11 [stArg true 12] (memL stG) (stPc (0, 3))) = true := by kernel_rfl
def StopEnd (k per : Int) (tg : Bool) (e act : Int) (ha : Bool) (w : World) (e0 : Ending) (w' : World) : Prop :=
 Below w.heap.size w w' ∧ ∃ A cap, e0 = .returned (.tuple #[.agg #[.int .i64 e, .slice A 0 cap, .int .i64 act, .slice none 0 0], .agg (spC k per false tg ha)])
theorem stop_any {ov : Bool} {e e' : Int} {aE : E} {hB : B} (hrun : allChk (fun r => stopQ false e' aE hB r.v) (evFn Tryz.prog kw0 12 20 11 [stArg ov e] (memL stG) (stPc (0, 3))) = true) {k per : Int} (hk : SpK k per) (ptg btg z : Bool) (LA : Option Addr) (m lc : Nat) (hPl : Pl LA m) (act er : Nat)
  (ha : act ≤ 1000) (her : er ≤ 3) (hm : m ≤ 1000) (haE : ∀ ρ : Nat → Int, ρ 3 = (act : Int) → aE.den ρ = (act : Int)) (hb : Bool) (hhB : ∀ ρ : Nat → Int, ρ 4 = (er : Int) → hB.den ρ = hb) (he64 : -9223372036854775808 ≤ e ∧ e ≤ 9223372036854775807) (w : World) (hl : LaidW w stG) :
  Calls Tryz.prog 11 #[.agg (strV 5 2 false k 8 per 1 0 1 ptg false btg z 0 LA m lc none 0 0 (act : Int) (er : Int) ov e none 0 0 (act : Int))] w (StopEnd k per btg e' act hb w) := by
 obtain ⟨bs, hbs⟩ := hl
 obtain ⟨d, hd⟩ := slz_place (slz_of hPl (n := m) (c := lc) (by omega))
 let ρ : Nat → Int := fun j => if j = 0 then b2i ptg else if j = 1 then b2i btg else if j = 2 then b2i z else if j = 3 then (act : Int) else if j = 4 then (er : Int) else if j = 5 then k else if j = 6 then per else if j = 7 then (m : Int) else if j = 1063 then b2i LA.isNone else 0
 have hkr : (2 ≤ k ∧ k ≤ 3) ∧ (0 ≤ per ∧ per ≤ 8) := by rcases hk with ⟨rfl, rfl⟩ | ⟨rfl, rfl⟩ <;> omega
 have hq : PcR ρ (stPc (0, 3)) := by
  refine ⟨fun c hc => by simp [stPc] at hc, ?_⟩
  intro i lo hi h
  match i, h with
  | 0, h => obtain ⟨rfl, rfl⟩ := Prod.mk.inj (Option.some.inj (show some ((0 : Int), (1 : Int)) = some (lo, hi) from h)); exact b2i_r ptg
  | 1, h => obtain ⟨rfl, rfl⟩ := Prod.mk.inj (Option.some.inj (show some ((0 : Int), (1 : Int)) = some (lo, hi) from h)); exact b2i_r btg
  | 2, h => obtain ⟨rfl, rfl⟩ := Prod.mk.inj (Option.some.inj (show some ((0 : Int), (1 : Int)) = some (lo, hi) from h)); exact b2i_r z
  | 3, h => obtain ⟨rfl, rfl⟩ := Prod.mk.inj (Option.some.inj (show some ((0 : Int), (1000 : Int)) = some (lo, hi) from h)); exact (show (0 : Int) ≤ (act : Int) ∧ (act : Int) ≤ 1000 by omega)
  | 4, h => obtain ⟨rfl, rfl⟩ := Prod.mk.inj (Option.some.inj (show some ((0 : Int), (3 : Int)) = some (lo, hi) from h)); exact (show (0 : Int) ≤ (er : Int) ∧ (er : Int) ≤ 3 by omega)
  | 5, h => obtain ⟨rfl, rfl⟩ := Prod.mk.inj (Option.some.inj (show some ((2 : Int), (3 : Int)) = some (lo, hi) from h)); exact hkr.1
  | 6, h => obtain ⟨rfl, rfl⟩ := Prod.mk.inj (Option.some.inj (show some ((0 : Int), (8 : Int)) = some (lo, hi) from h)); exact hkr.2
  | 7, h => obtain ⟨rfl, rfl⟩ := Prod.mk.inj (Option.some.inj (show some ((0 : Int), (1000 : Int)) = some (lo, hi) from h)); exact (show (0 : Int) ≤ (m : Int) ∧ (m : Int) ≤ 1000 by omega)
  | i + 8, h => exact absurd (show (none : Option (Int × Int)) = some (lo, hi) from h) (by simp)
 have ia : ∀ {x : Int}, (0 ≤ x ∧ x ≤ 1000) → kMin .i64 ≤ x ∧ x ≤ kMax .i64 := fun h => ⟨Int.le_trans (by decide) h.1, Int.le_trans h.2 (by decide)⟩
 have hact : VR (cL bs ρ d) (.int .i64 (.x 3)) (.int .i64 (act : Int)) := VR.int.2 ⟨rfl, ia (x := (act : Int)) (by omega)⟩
 have ib : ∀ {x : Int}, (0 ≤ x ∧ x ≤ 8) → kMin .u8 ≤ x ∧ x ≤ kMax .u8 := fun h => ⟨Int.le_trans (by decide) h.1, Int.le_trans h.2 (by decide)⟩
 have hV : VR (cL bs ρ d) (stArg ov e) (.agg (strV 5 2 false k 8 per 1 0 1 ptg false btg z 0 LA m lc none 0 0 (act : Int) (er : Int) ov e none 0 0 (act : Int))) := by
  refine VR.agg.2 ⟨_, rfl, ?_⟩
  refine VRs.cons (VR.bool.2 rfl) <| VRs.cons (vi (by decide)) <| VRs.cons (vi (by decide)) <| VRs.cons (VR.bool.2 rfl) <| VRs.cons (VR.int.2 ⟨rfl, ib (x := k) (by omega)⟩) <| VRs.cons (vi (by decide)) <| VRs.cons (VR.int.2 ⟨rfl, ia (x := per) (by omega)⟩) <|
   VRs.cons (vi (by decide)) <| VRs.cons (vi (by decide)) <| VRs.cons (vi (by decide)) <| VRs.cons (vr_bool rfl) <| VRs.cons (VR.bool.2 rfl) <|
   VRs.cons (vi (by decide)) <| VRs.cons (vi (by decide)) <| VRs.cons (vi (by decide)) <| VRs.cons (vi (by decide)) <| VRs.cons (vi (by decide)) <| VRs.cons (vi (by decide)) <| VRs.cons (VR.nilSlice.2 rfl) <| VRs.cons (vi (by decide)) <| VRs.cons (VR.bool.2 rfl) <| VRs.cons (vi (by decide)) <| VRs.cons (VR.nilSlice.2 rfl) <| VRs.cons (vi (by decide)) <| VRs.cons (vi (by decide)) <|
   VRs.cons (VR.bool.2 rfl) <| VRs.cons (vi (by decide)) <| VRs.cons (vi (by decide)) <| VRs.cons (vr_bool rfl) <| VRs.cons (VR.nilSlice.2 rfl) <| VRs.cons (vr_bool rfl) <| VRs.cons (vi (by decide)) <| VRs.cons (hd (cL bs ρ d) 4096 7 (show 4096 < 4097 by omega) rfl rfl rfl) <| VRs.cons (VR.nilSlice.2 rfl) <| VRs.cons hact <| VRs.cons (VR.int.2 ⟨rfl, ia (x := (er : Int)) (by omega)⟩) <| VRs.cons (VR.bool.2 rfl) <| VRs.cons (vi he64) <|
   VRs.cons (VR.bool.2 rfl) <| VRs.cons (vi (by decide)) <| VRs.cons (vi (by decide)) <| VRs.cons (VR.nilSlice.2 rfl) <| VRs.cons (vi (by decide)) <| VRs.cons (vi (by decide)) <| VRs.cons (VR.nilSlice.2 rfl) <| VRs.cons (VR.nilSlice.2 rfl) <| VRs.cons hact <| VRs.nil
 refine (con_runC plain kw0_ok (memL_ok d hbs) globL memL_wr hq (VRs.cons hV VRs.nil) hrun).mono ?_
 rintro e0 w' ⟨r, c', y, hc, hp, rfl, hv, hρ, hbel⟩
 obtain ⟨A, cap, rfl⟩ := stopQ_ok hc hv
 have e5 : c'.ρ 5 = k := by rw [hρ]; rfl
 have e6 : c'.ρ 6 = per := by rw [hρ]; rfl
 have e1 : (c'.ρ 1 == 1) = btg := by rw [hρ]; show (b2i btg == 1) = btg; cases btg <;> rfl
 refine ⟨hbel, A, cap, ?_⟩
 rw [haE c'.ρ (by rw [hρ]; rfl), hhB c'.ρ (by rw [hρ]; rfl), e5, e6, e1]
 rfl
theorem stop_ret {k per : Int} (hk : SpK k per) (ptg z : Bool) (LA : Option Addr) (m lc : Nat) (hPl : Pl LA m) (act : Nat) (h : Hst) (hov : h.over = true → h.e = 0 ∨ h.e = 11 ∨ h.e = 12) (hrun : h.over = false → h.e = 0)
  (ha : act ≤ 1000) (her : h.er ≤ 3) (hm : m ≤ 1000) (w : World) (hl : LaidW w stG) :
  Calls Tryz.prog 11 #[.agg (strV 5 2 false k 8 per 1 0 1 ptg false h.tg z 0 LA m lc none 0 0 (act : Int) (h.er : Int) h.over h.e none 0 0 (act : Int))] w
   (StopEnd k per h.tg (if h.over = true then h.e else 17) act (if h.over = true then decide (h.e ≠ 0) else decide (0 < h.er)) w) := by
 obtain ⟨tg, hk', er, over, e⟩ := h
 dsimp only at *
 cases over with
 | false =>
  obtain rfl := hrun rfl
  refine stop_any (aE := .bin .add .i64 (.n 0) (.x 3)) (hB := .lt (.n 0) (.x 4)) st_run17 hk ptg tg z LA m lc hPl act er ha her hm (fun ρ hρ => ?_) _ (fun ρ hρ => ?_) (by omega) w hl
  ·simp [E.den, hρ]
   show wrapZ .i64 (0 + (act : Int)) = _
   rw [wrapZ_eq, IntWalk.i64_in _ (by omega)]
   omega
  ·simp [B.den, E.den, hρ]
 | true =>
  rcases hov rfl with rfl | rfl | rfl
  ·exact stop_any (aE := .x 3) (hB := .lit false) st_run0 hk ptg tg z LA m lc hPl act er ha her hm (fun ρ hρ => hρ) _ (fun ρ hρ => rfl) (by omega) w hl
  ·exact stop_any (aE := .x 3) (hB := .lit true) st_run11 hk ptg tg z LA m lc hPl act er ha her hm (fun ρ hρ => hρ) _ (fun ρ hρ => rfl) (by omega) w hl
  ·exact stop_any (aE := .x 3) (hB := .lit true) st_run12 hk ptg tg z LA m lc hPl act er ha her hm (fun ρ hρ => hρ) _ (fun ρ hρ => rfl) (by omega) w hl
end Go.Proofs.YtiajboiobjfcoaaGreatDoor
