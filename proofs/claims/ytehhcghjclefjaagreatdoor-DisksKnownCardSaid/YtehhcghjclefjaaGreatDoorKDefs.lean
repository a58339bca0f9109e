/-
  What is defined here: the runs of plugboardlaw39.DisksKnown: the calls of DisksRun, DisksSurvive and DisksClass in its rounds.
  Conditions: none (definitions only).
-/
import Derived.Test.YtehhcghjclefjaaGreatDoorKBase
namespace Go.Proofs.YtehhcghjclefjaaGreatDoor
open Go.Sy Go.RowKit

set_option maxRecDepth 1000000

noncomputable def kNext (k i : Nat) : Nat := (k * 31 + 7 * i + 11) % 100003
/-- the counter from k on, before the steps i, i + 1, .. -/
noncomputable def kList (c : Nat) : Nat → Nat → List Nat := Nat.rec (motive := fun _ => Nat → Nat → List Nat) (fun _ _ => []) (fun _ ih k i => k :: ih (kNext k i) (i + 1)) c
/-- the counter at the start of a round -/
def starts : List Nat := [1, 57761, 21870, 77298, 86410, 22062, 85600, 55790, 77274, 10370, 75891, 28697, 40193, 62261, 78944, 34662, 5400, 96414, 50452, 98552, 57479, 28427, 84770, 92820, 63804, 34201]
noncomputable def kS (n : Nat) : Nat := starts.getD n 0
noncomputable def kL (n : Nat) : List (Nat × Nat) := (kList 10 (kS n) 0).zip (List.range 10)
noncomputable def actV (x : Nat × Nat) : List V := [nu8 x.1, nu8 (x.1 / 3), nu32 (x.1 / 5), nu16 (x.1 / 7), nu8 (x.1 / 11), .slice (4097 + x.2) 0 3 (.n 3)]
noncomputable def whichV (k : Nat) : List V := [nb (Nat.beq (k % 2) 0), nb (Nat.beq (k % 3) 0), nb (Nat.beq (k % 5) 0)]
noncomputable def cfgV (n : Nat) : V := .agg [nu8 (kS n), nu8 n, nb (Nat.beq (n % 7) 6)]
noncomputable def actB (n : Nat) : List (Nat × Blk) := (4096, .cells ((kL n).flatMap actV) false false (some (0, 6))) :: (kL n).map (fun x => (4097 + x.2, .cells (whichV x.1) false false none))
/-- the arguments of DisksRun in round n, and what they point to -/
noncomputable def pnR (n : Nat) : Pn := ⟨0, 0, [(0, cfgV n), (1, .slice 4096 0 10 (.t 0 0))], gB ++ actB n, 4107, 1, [(0, 10)], [], []⟩
/-- those of DisksClass -/
noncomputable def pnC (n : Nat) : Pn := ⟨0, 0, [(0, cfgV n), (1, .slice 4096 0 5 (.t 0 0))], gB ++ actB n, 4107, 1, [(0, 10)], [], []⟩
/-- those of DisksSurvive -/
noncomputable def pnS (n : Nat) : Pn := ⟨0, 0, [(0, cfgV n), (1, .agg [.slice 4096 0 5 (.n 5), nu8 n, .slice 4097 0 2 (.n 2)])],
  gB ++ [(4096, .cells [nu8 (kS (n + 1)), nu8 1, nu8 (kS (n + 1) / 3), nu8 1, nu8 2] false false none), (4097, .cells [nb (Nat.beq (n % 2) 0), nb (Nat.beq (n % 3) 0)] false false none)], 4098, 0, [], [], []⟩

noncomputable def drCode : Code := Tryz.f20.body.getD .skip
theorem dr_body : Tryz.f20.body = some drCode := by kernel_rfl
noncomputable def dsCode : Code := Tryz.f21.body.getD .skip
theorem ds_body : Tryz.f21.body = some dsCode := by kernel_rfl
noncomputable def dcCode : Code := Tryz.f22.body.getD .skip
theorem dc_body : Tryz.f22.body = some dcCode := by kernel_rfl
theorem dr_nt : Tryz.f20.ntmps = 212 := by kernel_rfl
theorem ds_nt : Tryz.f21.ntmps = 217 := by kernel_rfl
theorem dc_nt : Tryz.f22.ntmps = 317 := by kernel_rfl

noncomputable def cfD : FuncId → List V → M V := evFn Tryz.prog kwF 12 30
theorem cfD_ok (ρ : Nat → Int) : CallsOK Tryz.prog ρ cfD := evFn_ok plain (kwF_ok ρ) 12 30
noncomputable def runR (n : Nat) : Bool := goodT (leafR 4) (evCode drCode Tryz.prog cfD 8 212 (pnR n).env (pnR n).mem (pnR n).pc)
noncomputable def runS (n : Nat) : Bool := goodT (leafR 4) (evCode dsCode Tryz.prog cfD 8 217 (pnS n).env (pnS n).mem (pnS n).pc)
noncomputable def runC (n : Nat) : Bool := goodT (leafR 4) (evCode dcCode Tryz.prog cfD 8 317 (pnC n).env (pnC n).mem (pnC n).pc)
/-- the round, by its configuration -/
noncomputable def pickN (env : Env) (_ : Mem) : Nat := match env 0 with | .agg (_ :: b :: _) => natV b | _ => 0
noncomputable def hdDR : Hds := ⟨pnR, fun n => Nat.blt n 25, fun _ => 0, pickN⟩
noncomputable def hdDS : Hds := ⟨pnS, fun n => Nat.blt n 25, fun _ => 0, pickN⟩
noncomputable def hdDC : Hds := ⟨pnC, fun n => Nat.blt n 25, fun _ => 0, pickN⟩
noncomputable def knCode : Code := Tryz.f4.body.getD .skip
theorem kn_body : Tryz.f4.body = some knCode := by kernel_rfl

end Go.Proofs.YtehhcghjclefjaaGreatDoor
