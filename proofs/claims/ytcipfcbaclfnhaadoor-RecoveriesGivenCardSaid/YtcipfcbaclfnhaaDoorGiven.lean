/-
  What is proved here: plugboardlaw29.RecoveriesGiven returns true for every input.
  Conditions: the table of math/bits is laid, which the card ties to the program's text.
-/
import Derived.Test.YtcipfcbaclfnhaaDoorBase
namespace Go.Proofs.YtcipfcbaclfnhaaDoor
open Go.Sy Go.RowKit Go.ChangeShapes Go.WideShapes Go.ChangeAt

set_option maxRecDepth 1000000

def givenShapes : List Sh := [⟨true, [.int .u32, .int .u8, .int .u8, .int .u8, .int .u8, .int .u8, .int .u8, .int .u8]⟩, ⟨true, [.int .u8, .int .u8, .int .u8]⟩, ⟨false, [.int .u8]⟩]
theorem given_shapes : Tryd.f7.params.toList.mapM (shapeOf Tryd.prog) = some givenShapes := by kernel_rfl
theorem given_runs : allTrue (evFn Tryd.prog kw 10 20 7 (argsV givenShapes 0) (mem0 glob) ⟨[], argsRng givenShapes⟩) = true := by kernel_rfl

theorem given_lifted (os : Os) (started : os.Started) (H : Type) (enc : TypeId × Value → H) :
    ReturnsInHanded {} Tryd.checked os 7 .any (fun w args => (Rows.recoveriesGivenSpec.pre enc Tryd.prog Tryd.f7 [] false w args ∧ laidMetH Tryd.prog laid w) ∧ sizedMet enc Tryd.prog Tryd.f7 (OpenSpec.ofChange Rows.recoveriesGivenSpec) false w args)
      (Rows.recoveriesGivenSpec.post enc Tryd.prog Tryd.f7 false true false false) := by
  refine law_lifted_laid (C := Tryd.checked) (fn := Tryd.f7) (tb := 4) own started (by kernel_rfl) Tryd.func7 laidOut (by kernel_rfl) (by kernel_rfl) (by kernel_rfl) rfl ?_
    (ChangeSpec.witness_shaped (enc := enc) (C := Tryd.checked) (os := os) (X := fun w _ => laidMetH Tryd.prog laid w) false (World.doorLaid Tryd.prog 400 os)
      #[.agg #[.int .u32 0, .int .u8 0, .int .u8 0, .int .u8 0, .int .u8 0, .int .u8 0, .int .u8 0, .int .u8 0], .agg #[.int .u8 0, .int .u8 0, .int .u8 0], .int .u8 0] 8 rfl (World.shaped_of_RefB (by kernel_rfl) (by kernel_rfl)) (by kernel_rfl) (by kernel_rfl) (by kernel_rfl)
      (laidMetH_of_parts3 (fuel := 8) (laidMet_of_run' 8 (by kernel_rfl) (by kernel_rfl)) (by kernel_rfl) (by kernel_rfl))) ?_
  · intro ds hd
    match ds, hd with
    | [_, _, _], _ => rfl
  · intro W base args ds ps hval hA _ hL
    exact law_calls plain kw_ok given_shapes given_runs hval hA fun ρ => laid_glob hL ρ

theorem given_holds : Rows.RecoveriesGivenSaid :=
  OpenClaim.holds_of_wide 7 Tryd.f7 rfl rfl rfl rfl rfl rfl rfl ⟨rfl, rfl, rfl, rfl, rfl⟩ rfl rfl rfl rfl rfl (by kernel_rfl) Tryd.func7 (by kernel_rfl)
    (of_decide_eq_true (by kernel_rfl)) (by unfold Func.isWrapper; first | (rw [if_pos (by decide +kernel)]; kernel_rfl) | (rw [if_neg (by decide +kernel)]; exact ⟨rfl, rfl⟩))
    (fun os started H enc _ => given_lifted os started H enc)

theorem given_card : Rows.RecoveriesGivenCardSaid :=
  Claim7.holds_tied_plain_at .later [] [.data] true (true, "80b4cedac525617e33e55bb46d32322e56a10a64844434ad8a43f47857804ffd") false
    given_holds (fun _ h => by cases h) (by kernel_rfl) (fun _ h => by cases h) recoveriesGiven_row_tie rfl ⟨rfl, rfl⟩ (by kernel_rfl) rfl
    (fun f fn hf hfn => by
      obtain rfl : f = 7 := Option.some.inj ((show Tryd.prog.funcNamed Rows.recoveriesGivenRow.func = some 7 by kernel_rfl).symm.trans hf) |>.symm
      obtain rfl : fn = Tryd.f7 := (Option.some.inj (Tryd.func7.symm.trans hfn)).symm
      exact ⟨by kernel_rfl, fun j t ht => by
        have hm : t ∈ Tryd.f7.params.toList := by simpa using Array.mem_of_getElem? ht
        have hall : (Tryd.f7.params.toList.all fun u => !Tryd.prog.wantsStandIn u) = true := by kernel_rfl
        exact (show Tryd.prog.wantsStandIn t = false by simpa using List.all_eq_true.1 hall t hm)⟩)
    (by kernel_rfl)
#print axioms given_card
end Go.Proofs.YtcipfcbaclfnhaaDoor
