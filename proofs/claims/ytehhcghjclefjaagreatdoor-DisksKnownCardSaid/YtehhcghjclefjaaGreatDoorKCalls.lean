/-
  What is proved here: DisksRun, DisksSurvive and DisksClass return true where plugboardlaw39.DisksKnown calls them.
  Conditions: none.
-/
import Derived.Test.YtehhcghjclefjaaGreatDoorKRuns
namespace Go.Proofs.YtehhcghjclefjaaGreatDoor
open Go.Sy Go.RowKit

set_option maxRecDepth 1000000

noncomputable def kwC : Kw := kwPat 22 hdDC Tryz.f22.ntmps kwF
theorem kwC_ok (ρ : Nat → Int) : KwOK Tryz.prog ρ kwC := kwPat_ok Tryz.func22 dc_body (callable plain (by kernel_rfl)) (fun h W a hh h0 => by
  unfold AtHd at h0
  rw [dc_nt] at h0
  have hh : Nat.blt h 25 = true := hh
  exact end_hds (fn := Tryz.f22) (t := 4) (it := 8) (qs := [(pnC h).pc]) plain.mixed cfD_ok (by kernel_rfl) (by kernel_rfl) one_cover
    (one_run (f := fun q => goodT (leafR 4) (evCode dcCode Tryz.prog cfD 8 317 (pnC h).env (pnC h).mem q)) (runC_all h ((blt_iff _ _).1 hh))) h0) (kwF_ok ρ)
noncomputable def kwS : Kw := kwPat 21 hdDS Tryz.f21.ntmps kwC
theorem kwS_ok (ρ : Nat → Int) : KwOK Tryz.prog ρ kwS := kwPat_ok Tryz.func21 ds_body (callable plain (by kernel_rfl)) (fun h W a hh h0 => by
  unfold AtHd at h0
  rw [ds_nt] at h0
  have hh : Nat.blt h 25 = true := hh
  exact end_hds (fn := Tryz.f21) (t := 4) (it := 8) (qs := [(pnS h).pc]) plain.mixed cfD_ok (by kernel_rfl) (by kernel_rfl) one_cover
    (one_run (f := fun q => goodT (leafR 4) (evCode dsCode Tryz.prog cfD 8 217 (pnS h).env (pnS h).mem q)) (runS_all h ((blt_iff _ _).1 hh))) h0) (kwC_ok ρ)
noncomputable def kwK : Kw := kwPat 20 hdDR Tryz.f20.ntmps kwS
theorem kwK_ok (ρ : Nat → Int) : KwOK Tryz.prog ρ kwK := kwPat_ok Tryz.func20 dr_body (callable plain (by kernel_rfl)) (fun h W a hh h0 => by
  unfold AtHd at h0
  rw [dr_nt] at h0
  have hh : Nat.blt h 25 = true := hh
  exact end_hds (fn := Tryz.f20) (t := 4) (it := 8) (qs := [(pnR h).pc]) plain.mixed cfD_ok (by kernel_rfl) (by kernel_rfl) one_cover
    (one_run (f := fun q => goodT (leafR 4) (evCode drCode Tryz.prog cfD 8 212 (pnR h).env (pnR h).mem q)) (runR_all h ((blt_iff _ _).1 hh))) h0) (kwS_ok ρ)

/-! ### the rounds -/
noncomputable def cfK : FuncId → List V → M V := evFn Tryz.prog kwK 10 20
theorem cfK_ok (ρ : Nat → Int) : CallsOK Tryz.prog ρ cfK := evFn_ok plain (kwK_ok ρ) 10 20
def knPath : List Dir := [.r, .r, .l, .r, .b]
noncomputable def knRest : Code := cR (place [.r, .r] knCode)
noncomputable def knLoop : Code := cLoop (place knPath knCode)
noncomputable def pnN (n : Nat) : Pn := ⟨0, 0, [(1, ni64 (kS n)), (2, ni64 n)], gB, 4096, 0, [], [], []⟩
noncomputable def hdN : Hds := ⟨pnN, fun n => Nat.ble n 25, fun n => 25 - n, fun env _ => natV (env 2)⟩
noncomputable def pnX : Pn := ⟨0, 0, [], gB, 4096, 0, [], [], []⟩
noncomputable def hdX : Hds := ⟨fun _ => pnX, fun _ => true, fun _ => 0, fun _ _ => 0⟩
noncomputable def ltN (h h' : Nat) (_ : Ren) : Bool := Nat.blt (25 - h') (25 - h)
noncomputable def headK : Bool := goodT (leafH hdN 0) (evHead Tryz.prog cfK 14 91 knPath knCode (setArgs (paV [] 0 0) 0 env0) (mem1 dG []) ⟨[], paR []⟩)
noncomputable def roundK (n : Nat) : Bool := goodT (leafL hdN hdX ltN 0 0 n) (evCode knLoop Tryz.prog cfK 14 91 (pnN n).env (pnN n).mem (pnN n).pc)
noncomputable def endK : Bool := goodT (leafR 0) (evCode knRest Tryz.prog cfK 14 91 pnX.env pnX.mem pnX.pc)

end Go.Proofs.YtehhcghjclefjaaGreatDoor
