/-
  What is proved here: plugboardlaw41.SerialsCoding returns true for every input.
  Conditions: none.
-/
import Derived.Test.YtcipfcbaclfnhaaBase
namespace Go.Proofs.Ytcipfcbaclfnhaa
open Go.Sy Go.RowKit Go.ChangeShapes Go.WideShapes Go.ChangeAt

set_option maxRecDepth 1000000

def codingPa : List Pa := [.agg [.int .u32, .int .u8, .int .u8, .int .u8], .agg [.int .u16, .int .u8], .arr [.int .u8]]
theorem coding_pa : Try.f3.params.toList.mapM (paOf Try.prog) = some codingPa := by kernel_rfl
theorem coding_runs : allTrue (evFn Try.prog kwS 10 20 3 (paV codingPa 0 0) (mem1 [] codingPa) ⟨[], paR codingPa⟩) = true := by kernel_rfl

theorem coding_lifted (os : Os) (started : os.Started) (H : Type) (enc : TypeId × Value → H) :
    ReturnsInHanded {} Try.checked os 3 .any (Rows.serialsCodingSpec.pre6 enc Try.prog Try.f3 [] false) (Rows.serialsCodingSpec.post enc Try.prog Try.f3 false true false false) := by
  refine law_lifted (C := Try.checked) (fn := Try.f3) own started (by kernel_rfl) Try.func3 laidOut (by kernel_rfl) (tb := 4) (by kernel_rfl) (by kernel_rfl) rfl ?_
    (ChangeSpec.witness6 (enc := enc) (C := Try.checked) false ⟨#[], #[.agg #[.int .u32 0, .int .u8 0, .int .u8 0, .int .u8 0], .agg #[.int .u16 0, .int .u8 0], .slice none 0 0], []⟩ 8 (by kernel_rfl) (by kernel_rfl) (by kernel_rfl) (by kernel_rfl)) ?_
  · intro ds hd
    match ds, hd with
    | [_, _, _], _ => rfl
  · intro W base args ds ps hval hA _
    exact law_calls1 plain kwS_ok coding_pa (by kernel_rfl) (by kernel_rfl) coding_runs hval hA (fun x hx => nomatch hx)

theorem coding_holds : Rows.SerialsCodingSaid :=
  OpenClaim.holds_of_wide 3 Try.f3 rfl rfl rfl rfl rfl rfl rfl ⟨rfl, rfl, rfl, rfl, rfl⟩ rfl rfl rfl rfl rfl (by kernel_rfl) Try.func3 (by kernel_rfl)
    (of_decide_eq_true (by kernel_rfl)) (by unfold Func.isWrapper; first | (rw [if_pos (by decide +kernel)]; kernel_rfl) | (rw [if_neg (by decide +kernel)]; exact ⟨rfl, rfl⟩))
    (fun os started H enc _ => coding_lifted os started H enc)
#print axioms coding_holds
end Go.Proofs.Ytcipfcbaclfnhaa
