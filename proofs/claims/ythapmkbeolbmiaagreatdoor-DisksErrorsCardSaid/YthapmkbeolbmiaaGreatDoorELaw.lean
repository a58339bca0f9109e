/-
  What is proved here: plugboardlaw39.DisksErrors up to the place behind the first comparison (walked once).
  Conditions: what the arguments hold; what the rest does (proved beside).
-/
import Derived.Test.YthapmkbeolbmiaaGreatDoorENew
import Derived.Test.YthapmkbeolbmiaaGreatDoorEStart
import Derived.Deep.CutRange
namespace Go.Proofs.YthapmkbeolbmiaaGreatDoor
open Go.Proofs Go.RowKit

/-- what a law's call is to do -/
def End3 (W : World) (e : Ending) (w' : World) : Prop := e = .returned (.bool true) ∧ Below W.heap.size W w'

/-- what lies in the arguments' blocks -/
def St (w : World) (bl sz ca : Int) (lk : Bool) (v p r : ByteArray) (rem : Bool) (x y : Int) (wx : World) : Prop :=
  Below w.heap.size w wx ∧ wx.cell? ⟨w.heap.size, 0, none⟩ = some (.int .i64 bl) ∧ wx.cell? ⟨w.heap.size, 1, none⟩ = some (.int .i64 sz) ∧ wx.cell? ⟨w.heap.size, 2, none⟩ = some (.int .i64 ca) ∧ wx.cell? ⟨w.heap.size, 3, none⟩ = some (.bool lk) ∧
    wx.cell? ⟨w.heap.size, 4, none⟩ = some (.string v) ∧ wx.cell? ⟨w.heap.size, 5, none⟩ = some (.string p) ∧ wx.cell? ⟨w.heap.size, 6, none⟩ = some (.string r) ∧ wx.cell? ⟨w.heap.size, 7, none⟩ = some (.bool rem) ∧
    wx.cell? ⟨w.heap.size + 1, 0, none⟩ = some (.int .u16 x) ∧ wx.cell? ⟨w.heap.size + 1, 1, none⟩ = some (.int .u16 y)

theorem bad_eq {bl sz ca : Int} {bad b1 b2 b3 b4 b5 b6 b7 : Bool} (h : (bad = true ∧ CfgBad bl sz ca) ∨ (bad = false ∧ CfgOk bl sz ca)) (e1 : decide (bl < 1) = b1) (e2 : decide (4096 < bl) = b2) (e3 : (sz != 64) = b3) (e4 : (sz != 512) = b4)
    (e5 : (sz != 4096) = b5) (e6 : decide (ca < 0) = b6) (e7 : decide (64 < ca) = b7) : bad = ((((b1 || b2) || ((b3 && b4) && b5)) || b6) || b7) := by
  unfold CfgBad CfgOk SizeOk at h
  rw [e1, e2, e3, e4, e5, e6, e7] at h
  revert h
  clear e1 e2 e3 e4 e5 e6 e7
  cases bad <;> cases b1 <;> cases b2 <;> cases b3 <;> cases b4 <;> cases b5 <;> cases b6 <;> cases b7 <;> simp

theorem rest_of {w : World} {Q : Exit → Act → World → Prop} {n x y : Int} {co : Code} (hco : co = deRest) (h : RestOk w Q n x y deRest) : RestOk w Q n x y co := by
  rw [hco]; exact h

set_option maxHeartbeats 4000000 in
set_option maxRecDepth 1000000 in
theorem de_walk (bl sz ca : Int) (lk : Bool) (v p r : ByteArray) (rem : Bool) (n x y : Int) (w : World) (lives : ∀ w', Below w.heap.size w w' → Calls Tryz.prog 5 #[] w' (End3 w')) (hrest : RestOk w (bodyPost Tryz.prog Tryz.f3 (End3 w)) n x y deRest) :
    Calls Tryz.prog 3 #[.agg #[.int .i64 bl, .int .i64 sz, .int .i64 ca, .bool lk, .string v, .string p, .string r, .bool rem], .int .i64 n, .agg #[.int .u16 x, .int .u16 y]] w (End3 w) := by
  have hb : ∀ o1 o2, Below w.heap.size w ((w.alloc o1).alloc o2) := fun o1 o2 => ((Below.refl _ _).alloc (Nat.le_refl _) _).alloc (by simp) _
  by_cases h30 : 30 < v.size ∨ 30 < p.size ∨ 30 < r.size
  · have hd : (decide ((30 : Int) < (v.size : Int)) = true) ∨ (decide ((30 : Int) < (v.size : Int)) = false ∧ decide ((30 : Int) < (p.size : Int)) = true) ∨ (decide ((30 : Int) < (v.size : Int)) = false ∧ decide ((30 : Int) < (p.size : Int)) = false ∧ decide ((30 : Int) < (r.size : Int)) = true) := by
      simp only [decide_eq_true_eq, decide_eq_false_iff_not]; omega
    clear h30
    rcases hd with d1 | ⟨d1, d2⟩ | ⟨d1, d2, d3⟩
    all_goals
      go_enter Tryz.func3, Tryz.ntmps3
      go_wp2_with fail
      refine (lives _ (hb _ _)).mono ?_
      rintro e w' ⟨rfl, hbel⟩
      go_wp2_with fail
      go_ret
      exact ⟨rfl, (hb _ _).trans (hbel.mono (by simp; omega))⟩
  · have d1 : decide ((30 : Int) < (v.size : Int)) = false := by simp; omega
    have d2 : decide ((30 : Int) < (p.size : Int)) = false := by simp; omega
    have d3 : decide ((30 : Int) < (r.size : Int)) = false := by simp; omega
    have hv3 : v.size ≤ 30 := by omega
    have hp3 : p.size ≤ 30 := by omega
    have hr3 : r.size ≤ 30 := by omega
    obtain ⟨en, HE⟩ : ∃ en, Hid (errI v p r = en) := ⟨_, Lib.hid rfl⟩
    have hinq : ∀ w1, Calls Tryz.prog 6 #[.agg #[.string v, .string p, .string r, .bool rem]] w1 fun e w' => ∃ sl, e = .returned (.tuple #[sl, .int .i64 en]) ∧ Below w1.heap.size w1 w' := fun w1 => by
      have h := inq_any v p r rem w1 hv3 hp3 hr3
      unfold InqIs at h
      rwa [HE.out] at h
    obtain ⟨bad, hbad, hnew⟩ : ∃ bad, ((bad = true ∧ CfgBad bl sz ca) ∨ (bad = false ∧ CfgOk bl sz ca)) ∧ ∀ w1, Calls Tryz.prog 7 #[.agg #[.int .i64 bl, .int .i64 sz, .int .i64 ca, .bool lk, .string v, .string p, .string r, .bool rem]] w1 (NewIs (newE bad en) w1) := by
      rw [← HE.out]
      rcases cfg_cases bl sz ca with h | h
      · exact ⟨true, .inl ⟨rfl, h⟩, fun w1 => new_bad bl sz ca lk v p r rem w1 h⟩
      · exact ⟨false, .inr ⟨rfl, h⟩, fun w1 => new_ok bl sz ca lk v p r rem w1 h hv3 hp3 hr3⟩
    go_enter Tryz.func3, Tryz.ntmps3
    go_wp2_with fail
    refine (hinq _).mono ?_
    rintro e w1 ⟨sl, rfl, hb1⟩
    have hcl := fun k => hb1.cell (p := ⟨w.heap.size, k, none⟩) (by simp; omega)
    have hcy := fun k => hb1.cell (p := ⟨w.heap.size + 1, k, none⟩) (by simp)
    have c0 := hcl 0
    have c1 := hcl 1
    have c2 := hcl 2
    have c3 := hcl 3
    have c4 := hcl 4
    have c5 := hcl 5
    have c6 := hcl 6
    have c7 := hcl 7
    have y0 := hcy 0
    have y1 := hcy 1
    clear hcl hcy
    simp [go_sem] at c0 c1 c2 c3 c4 c5 c6 c7 y0 y1
    have hb2 := (hb _ _).trans (hb1.mono (by simp; omega))
    clear hb1 hinq
    have hst : St w bl sz ca lk v p r rem x y w1 := ⟨hb2, c0, c1, c2, c3, c4, c5, c6, c7, y0, y1⟩
    go_upto_if 59 with fail
    clear hb2 c0 c1 c2 c3 c4 c5 c6 c7 y0 y1
    go_cut [7] from 32 to 61 (fun s wx => s = .int .i64 en ∧ St w bl sz ca lk v p r rem x y wx)
    case first =>
      by_cases he : en = 0
      · have hen : (en != 0) = false := by simpa using he
        go_wp2_with fail
        go_meet
        exact ⟨by rw [he], hst⟩
      · have hen : (en != 0) = true := by simpa using he
        clear he
        go_wp2_with fail
        go_meet
        exact ⟨rfl, hst⟩
    case rest =>
      clear hst
      obtain ⟨rfl, hb2, c0, c1, c2, c3, c4, c5, c6, c7, y0, y1⟩ := hcut
      have hst : St w bl sz ca lk v p r rem x y wc := ⟨hb2, c0, c1, c2, c3, c4, c5, c6, c7, y0, y1⟩
      go_upto_region 7 with fail
      go_cut [93] from 61 to 94 (fun s wx => s = .bool bad ∧ St w bl sz ca lk v p r rem x y wx)
      case first =>
        obtain ⟨b1, e1⟩ : ∃ b, decide (bl < 1) = b := ⟨_, rfl⟩
        obtain ⟨b2, e2⟩ : ∃ b, decide (4096 < bl) = b := ⟨_, rfl⟩
        obtain ⟨b3, e3⟩ : ∃ b, (sz != 64) = b := ⟨_, rfl⟩
        obtain ⟨b4, e4⟩ : ∃ b, (sz != 512) = b := ⟨_, rfl⟩
        obtain ⟨b5, e5⟩ : ∃ b, (sz != 4096) = b := ⟨_, rfl⟩
        obtain ⟨b6, e6⟩ : ∃ b, decide (ca < 0) = b := ⟨_, rfl⟩
        obtain ⟨b7, e7⟩ : ∃ b, decide (64 < ca) = b := ⟨_, rfl⟩
        go_wp2_with fail
        all_goals
          go_meet
          refine ⟨congrArg Value.bool ?_, hst⟩
          rw [bad_eq hbad e1 e2 e3 e4 e5 e6 e7]
          clear hst hb2 c0 c1 c2 c3 c4 c5 c6 c7 y0 y1 hbad hnew lives hrest HE hb e1 e2 e3 e4 e5 e6 e7
          simp only [*, Bool.true_or, Bool.or_true, Bool.false_or, Bool.or_false, Bool.and_true, Bool.false_and, Bool.and_false]
      case rest =>
        clear hst hb2 c0 c1 c2 c3 c4 c5 c6 c7 y0 y1 hbad
        obtain ⟨rfl, hst⟩ := hcut
        go_upto_if 93 with fail
        go_cut [7] from 61 to 94 (fun s wx => s = .int .i64 (newE bad en) ∧ St w bl sz ca lk v p r rem x y wx)
        case first =>
          cases bad
          all_goals
            go_wp2_with fail
            go_meet
            exact ⟨rfl, hst⟩
        case rest =>
          clear hst
          obtain ⟨rfl, hb2, c0, c1, c2, c3, c4, c5, c6, c7, y0, y1⟩ := hcut
          generalize newE bad en = ne at hnew
          go_wp2_with fail
          refine (hnew _).mono ?_
          rintro e w2 ⟨hb3, pa, rfl, hpa⟩
          have hb4 := hb2.trans (hb3.mono hb2.size)
          have z0 := (hb3.cell (World.block_lt_of_cell? _ _ y0)).trans y0
          have z1 := (hb3.cell (World.block_lt_of_cell? _ _ y1)).trans y1
          clear hb2 hb3 c0 c1 c2 c3 c4 c5 c6 c7 y0 y1 hnew
          cases pa with
          | none =>
            have hne : (ne != 0) = true := by simpa using hpa
            clear hpa
            go_upto_if 108 with fail
            go_cut [] from 94 to 112 (fun wx => Below w.heap.size w wx ∧ wx.cell? ⟨w.heap.size + 1, 0, none⟩ = some (.int .u16 x) ∧ wx.cell? ⟨w.heap.size + 1, 1, none⟩ = some (.int .u16 y))
            case first =>
              go_wp2_with fail
              go_meet
              exact ⟨hb4, z0, z1⟩
            case rest =>
              obtain ⟨g1, g2, g3⟩ := hcut
              go_step
              refine rest_of (by kernel_rfl) hrest _ _ g1 g2 g3 rfl rfl rfl rfl
          | some pa =>
            have hne : (ne != 0) = false := by simpa using hpa
            clear hpa
            go_upto_if 108 with fail
            go_cut [] from 94 to 112 (fun wx => Below w.heap.size w wx ∧ wx.cell? ⟨w.heap.size + 1, 0, none⟩ = some (.int .u16 x) ∧ wx.cell? ⟨w.heap.size + 1, 1, none⟩ = some (.int .u16 y))
            case first =>
              go_wp2_with fail
              go_meet
              exact ⟨hb4, z0, z1⟩
            case rest =>
              obtain ⟨g1, g2, g3⟩ := hcut
              go_step
              refine rest_of (by kernel_rfl) hrest _ _ g1 g2 g3 rfl rfl rfl rfl
end Go.Proofs.YthapmkbeolbmiaaGreatDoor
