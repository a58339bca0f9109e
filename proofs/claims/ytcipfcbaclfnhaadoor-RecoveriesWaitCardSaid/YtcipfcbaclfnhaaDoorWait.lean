/-
  What is proved here: plugboardlaw29.RecoveriesWait returns true for every input.
  Conditions: the table of math/bits is laid, which the card ties to the program's text.
-/
import Derived.Test.YtcipfcbaclfnhaaDoorBase2
namespace Go.Proofs.YtcipfcbaclfnhaaDoor
open Go.Sy Go.RowKit Go.ChangeShapes Go.WideShapes Go.ChangeAt

set_option maxRecDepth 1000000

def waitPa : List Pa := [.leaf (.int .u8), .arr [.int .u8, .int .u8, .int .u8]]
theorem wait_pa : Tryd.f4.params.toList.mapM (paOf Tryd.prog) = some waitPa := by kernel_rfl
theorem wait_runs : allTrue (evFn Tryd.prog kwJ 10 20 4 (paV waitPa 0 0) (mem1 glob waitPa) ⟨[], paR waitPa⟩) = true := by kernel_rfl

theorem wait_lifted (os : Os) (started : os.Started) (H : Type) (enc : TypeId × Value → H) :
    ReturnsInHanded {} Tryd.checked os 4 .any (fun w args => (Rows.recoveriesWaitSpec.pre enc Tryd.prog Tryd.f4 [] false w args ∧ laidMetH Tryd.prog laid w) ∧ sizedMet enc Tryd.prog Tryd.f4 (OpenSpec.ofChange Rows.recoveriesWaitSpec) false w args)
      (Rows.recoveriesWaitSpec.post enc Tryd.prog Tryd.f4 false true false false) := by
  refine law_lifted_laid (C := Tryd.checked) (fn := Tryd.f4) (tb := 4) own started (by kernel_rfl) Tryd.func4 laidOut (by kernel_rfl) (by kernel_rfl) (by kernel_rfl) rfl ?_
    (ChangeSpec.witness_shaped (enc := enc) (C := Tryd.checked) (os := os) (X := fun w _ => laidMetH Tryd.prog laid w) false (World.doorLaid Tryd.prog 400 os)
      #[.int .u8 0, .slice none 0 0] 8 rfl (World.shaped_of_RefB (by kernel_rfl) (by kernel_rfl)) (by kernel_rfl) (by kernel_rfl) (by kernel_rfl)
      (laidMetH_of_parts3 (fuel := 8) (laidMet_of_run' 8 (by kernel_rfl) (by kernel_rfl)) (by kernel_rfl) (by kernel_rfl))) ?_
  · intro ds hd
    match ds, hd with
    | [_, _], _ => rfl
  · intro W base args ds ps hval hA _ hL
    exact law_calls1 plain kwJ_ok wait_pa (by kernel_rfl) glob_fixed wait_runs hval hA (laid_glob hL fun _ => 0)

theorem wait_holds : Rows.RecoveriesWaitSaid :=
  OpenClaim.holds_of_wide 4 Tryd.f4 rfl rfl rfl rfl rfl rfl rfl ⟨rfl, rfl, rfl, rfl, rfl⟩ rfl rfl rfl rfl rfl (by kernel_rfl) Tryd.func4 (by kernel_rfl)
    (of_decide_eq_true (by kernel_rfl)) (by unfold Func.isWrapper; first | (rw [if_pos (by decide +kernel)]; kernel_rfl) | (rw [if_neg (by decide +kernel)]; exact ⟨rfl, rfl⟩))
    (fun os started H enc _ => wait_lifted os started H enc)

theorem wait_card : Rows.RecoveriesWaitCardSaid :=
  Claim7.holds_tied_plain_at .later [] [.data] true (true, "80b4cedac525617e33e55bb46d32322e56a10a64844434ad8a43f47857804ffd") false
    wait_holds (fun _ h => by cases h) (by kernel_rfl) (fun _ h => by cases h) recoveriesWait_row_tie rfl ⟨rfl, rfl⟩ (by kernel_rfl) rfl
    (fun f fn hf hfn => by
      obtain rfl : f = 4 := Option.some.inj ((show Tryd.prog.funcNamed Rows.recoveriesWaitRow.func = some 4 by kernel_rfl).symm.trans hf) |>.symm
      obtain rfl : fn = Tryd.f4 := (Option.some.inj (Tryd.func4.symm.trans hfn)).symm
      exact ⟨by kernel_rfl, fun j t ht => by
        have hm : t ∈ Tryd.f4.params.toList := by simpa using Array.mem_of_getElem? ht
        have hall : (Tryd.f4.params.toList.all fun u => !Tryd.prog.wantsStandIn u) = true := by kernel_rfl
        exact (show Tryd.prog.wantsStandIn t = false by simpa using List.all_eq_true.1 hall t hm)⟩)
    (by kernel_rfl)
#print axioms wait_card
end Go.Proofs.YtcipfcbaclfnhaaDoor
