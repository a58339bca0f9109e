/-
  What is proved here: SerialsCarry and SerialsRequests return true where plugboardlaw41.SerialsKnown calls them.
  Conditions: none.
-/
import Derived.Test.YtjbkbapndoacpaaKRuns
namespace Go.Proofs.Ytjbkbapndoacpaa
open Go.Sy Go.RowKit

set_option maxRecDepth 1000000

noncomputable def kwK : Kw := kwPat 11 hdC Try.f11.ntmps (kwPat 12 hdA Try.f12.ntmps kwQ)
theorem kwK_ok (ρ : Nat → Int) : KwOK Try.prog ρ kwK :=
  kwPat_ok Try.func11 ca_body (callable plain (by kernel_rfl)) (fun h W a hh h0 => by
    unfold AtHd at h0
    rw [ca_nt] at h0
    have hh : Nat.blt h 20 = true := hh
    refine head_hds (fn := Try.f11) (t := 4) (H := hdD) (d := caPath) (it := 90) (qs := [(pnC h).pc]) plain.mixed cfQ_ok (by kernel_rfl) (by kernel_rfl) one_cover
      (one_run (f := fun q => goodT (leafH hdD 4) (evHead Try.prog cfQ 90 301 caPath caCode (pnC h).env (pnC h).mem q)) (carryA_all h ((blt_iff _ _).1 hh))) (fun h' a w hh' h1 => ?_) (fun a w h => h) h0
    have hh' : Nat.blt h' 20 = true := hh'
    show caRest.wp Try.prog (bodyPost Try.prog Try.f11 (LawEnd W)) a w
    exact end_hds (fn := Try.f11) (t := 4) (it := 90) (qs := [(pnD h').pc]) plain.mixed cfQ_ok (by kernel_rfl) (by kernel_rfl) one_cover
      (one_run (f := fun q => goodT (leafR 4) (evCode caRest Try.prog cfQ 90 301 (pnD h').env (pnD h').mem q)) (carryB_all h' ((blt_iff _ _).1 hh'))) h1)
    (kwPat_ok Try.func12 rq_body (callable plain (by kernel_rfl)) (fun h W a hh h0 => by
      unfold AtHd at h0
      rw [rq_nt] at h0
      have hh : Nat.blt h 20 = true := hh
      exact end_hds (fn := Try.f12) (t := 4) (it := 300) (qs := [(pnA h).pc]) plain.mixed cfQ_ok (by kernel_rfl) (by kernel_rfl) one_cover
        (one_run (f := fun q => goodT (leafR 4) (evCode rqCode Try.prog cfQ 300 204 (pnA h).env (pnA h).mem q)) (asks_all h ((blt_iff _ _).1 hh))) h0) (kwQ_ok ρ))

/-! ### the rounds -/
noncomputable def cfK : FuncId → List V → M V := evFn Try.prog kwK 10 20
theorem cfK_ok (ρ : Nat → Int) : CallsOK Try.prog ρ cfK := evFn_ok plain (kwK_ok ρ) 10 20
def knPath : List Dir := [.r, .r, .l, .r, .b]
noncomputable def knRest : Code := cR (place [.r, .r] knCode)
noncomputable def knLoop : Code := cLoop (place knPath knCode)
noncomputable def pnR (n : Nat) : Pn := ⟨0, 0, [(1, k64 (starts.getD n 0)), (2, k64 n)], [], 4096, 0, [], [], []⟩
noncomputable def hdR : Hds := ⟨pnR, fun n => Nat.ble n 20, fun n => 20 - n, fun env _ => natV (env 2)⟩
noncomputable def pnX : Pn := ⟨0, 0, [], [], 4096, 0, [], [], []⟩
noncomputable def hdX : Hds := ⟨fun _ => pnX, fun _ => true, fun _ => 0, fun _ _ => 0⟩
noncomputable def ltR (h h' : Nat) (_ : Ren) : Bool := Nat.blt (20 - h') (20 - h)
noncomputable def headK : Bool := goodT (leafH hdR 0) (evHead Try.prog cfK 14 112 knPath knCode (setArgs (paV [] 0 0) 0 env0) (mem1 [] []) ⟨[], paR []⟩)
noncomputable def roundK (n : Nat) : Bool := goodT (leafL hdR hdX ltR 0 0 n) (evCode knLoop Try.prog cfK 14 112 (pnR n).env (pnR n).mem (pnR n).pc)
noncomputable def endK : Bool := goodT (leafR 0) (evCode knRest Try.prog cfK 14 112 pnX.env pnX.mem pnX.pc)

end Go.Proofs.Ytjbkbapndoacpaa
