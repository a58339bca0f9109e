/-
  What is proved here: what controls.Start returns.
  Conditions: what the slice's cells hold.
-/
import Derived.Test.YthapmkbeolbmiaaGreatDoorQStore
import Derived.Test.YthapmkbeolbmiaaGreatDoorQScal
import Derived.Deep.RegionLaw
namespace Go.Proofs.YthapmkbeolbmiaaGreatDoor
open Go.Proofs Go.RowKit Go.Sy

attribute [local go_sem] lt2 lt3 lt4 lt5

/-- a request as a value -/
def reqV (t c v i l : Int) : Value := .agg #[.int .u8 t, .int .u8 c, .int .u16 v, .int .u16 i, .int .u16 l]
def ReqR (t c v i l : Int) : Prop := (0 ≤ t ∧ t ≤ 255) ∧ (0 ≤ c ∧ c ≤ 255) ∧ (0 ≤ v ∧ v ≤ 65535) ∧ (0 ≤ i ∧ i ≤ 65535) ∧ (0 ≤ l ∧ l ≤ 65535)
noncomputable def rArg : V := .agg [.int .u8 (.x 0), .int .u8 (.x 1), .int .u16 (.x 2), .int .u16 (.x 3), .int .u16 (.x 4)]
noncomputable def rPc : Pc := ⟨[], [(0, 255), (0, 255), (0, 65535), (0, 65535), (0, 65535)]⟩

theorem w_run : allChk (fun r => onBool r.v (fun _ => true) false) (evFn Tryz.prog kw0 10 20 115 [rArg] (mem0 []) rPc) = true := by kernel_rfl
/-- a slice of a block -/
def isSl (v : V) : Bool := match v with | .slice _ _ _ _ => true | _ => false
theorem sp_run : allChk (fun r => isSl r.v) (evFn Tryz.prog kw0 10 20 119 [rArg] (mem0 []) rPc) = true := by kernel_rfl

theorem req_ctx {t c v i l : Int} (h : ReqR t c v i l) : ∃ ρ : Nat → Int, PcR ρ rPc ∧ VRs (cx0 (fun _ => 0) ρ) [rArg] #[reqV t c v i l].toList := by
  obtain ⟨h0, h1, h2, h3, h4⟩ := h
  refine ⟨fun j => ([t, c, v, i, l])[j]?.getD 0, ⟨fun c hc => by simp [rPc] at hc, fun j lo hi hj => ?_⟩,
    VRs.cons (VR.agg.2 ⟨_, rfl, VRs.cons (VR.int.2 ⟨rfl, h0⟩) (VRs.cons (VR.int.2 ⟨rfl, h1⟩) (VRs.cons (VR.int.2 ⟨rfl, h2⟩) (VRs.cons (VR.int.2 ⟨rfl, h3⟩) (VRs.cons (VR.int.2 ⟨rfl, h4⟩) VRs.nil))))⟩) VRs.nil⟩
  match j, hj with
  | 0, hj => obtain ⟨rfl, rfl⟩ := Prod.mk.inj (Option.some.inj (show some ((0 : Int), (255 : Int)) = some (lo, hi) from hj)); exact h0
  | 1, hj => obtain ⟨rfl, rfl⟩ := Prod.mk.inj (Option.some.inj (show some ((0 : Int), (255 : Int)) = some (lo, hi) from hj)); exact h1
  | 2, hj => obtain ⟨rfl, rfl⟩ := Prod.mk.inj (Option.some.inj (show some ((0 : Int), (65535 : Int)) = some (lo, hi) from hj)); exact h2
  | 3, hj => obtain ⟨rfl, rfl⟩ := Prod.mk.inj (Option.some.inj (show some ((0 : Int), (65535 : Int)) = some (lo, hi) from hj)); exact h3
  | 4, hj => obtain ⟨rfl, rfl⟩ := Prod.mk.inj (Option.some.inj (show some ((0 : Int), (65535 : Int)) = some (lo, hi) from hj)); exact h4
  | j + 5, hj => exact absurd (show (none : Option (Int × Int)) = some (lo, hi) from hj) (by simp)

theorem writes_any {t c v i l : Int} (h : ReqR t c v i l) (w : World) : Calls Tryz.prog 115 #[reqV t c v i l] w fun e w' => ∃ b, e = .returned (.bool b) ∧ Below w.heap.size w w' := by
  obtain ⟨ρ, hp, hv⟩ := req_ctx h
  refine (con_run plain (bs := fun _ => 0) (g := []) kw0_ok hp hv (fun _ x hx => nomatch hx) w_run).mono ?_
  rintro e w' ⟨r, c', y, hc, _, rfl, hv, hρ, hbel⟩
  rcases onBool_cases r.v (fun _ => true) false with ⟨b, e, _⟩ | he
  · rw [e, VR.bool] at hv
    exact ⟨_, by rw [hv], hbel⟩
  · rw [he] at hc; cases hc
theorem split_sl {t c v i l : Int} (h : ReqR t c v i l) (w : World) : Calls Tryz.prog 119 #[reqV t c v i l] w fun e w' => ∃ g n cap, e = .returned (.slice g n cap) ∧ Below w.heap.size w w' := by
  obtain ⟨ρ, hp, hv⟩ := req_ctx h
  refine (con_run plain (bs := fun _ => 0) (g := []) kw0_ok hp hv (fun _ x hx => nomatch hx) sp_run).mono ?_
  rintro e w' ⟨r, c', y, hc, _, rfl, hv, hρ, hbel⟩
  cases e : r.v with
  | slice i o n cp =>
    rw [e, VR.slice] at hv
    obtain ⟨_, cap, _, _, rfl⟩ := hv
    exact ⟨_, _, _, rfl, hbel⟩
  | _ => rw [e] at hc; cases hc
theorem fits_ok {mx : Int} (h : mx = 8 ∨ mx = 16 ∨ mx = 32 ∨ mx = 64) (w : World) : Calls Tryz.prog 114 #[.int .i64 mx] w fun e w' => e = .returned (.bool true) ∧ w' = w := by
  rcases h with rfl | rfl | rfl | rfl
  all_goals
    go_enter Tryz.func114, Tryz.ntmps114
    go_wp2
    go_ret
    exact ⟨rfl, rfl⟩
end Go.Proofs.YthapmkbeolbmiaaGreatDoor
