/-
  What is proved here: plugboardlaw41.SerialsNone returns true for every input.
  Conditions: none.
-/
import Derived.Test.YtcipfcbaclfnhaaBase
namespace Go.Proofs.Ytcipfcbaclfnhaa
open Go.Sy Go.RowKit Go.ChangeShapes Go.WideShapes Go.ChangeAt

set_option maxRecDepth 1000000

def nonePa : List Pa := [.agg [.int .u8, .int .u8, .int .u16, .int .u16, .int .u16], .arr [.int .u8], .agg [.int .u8, .int .u8, .int .u8]]
theorem none_pa : Try.f4.params.toList.mapM (paOf Try.prog) = some nonePa := by kernel_rfl
theorem none_runs : allTrue (evFn Try.prog kwN 10 20 4 (paV nonePa 0 0) (mem1 [] nonePa) ⟨[], paR nonePa⟩) = true := by kernel_rfl

theorem none_lifted (os : Os) (started : os.Started) (H : Type) (enc : TypeId × Value → H) :
    ReturnsInHanded {} Try.checked os 4 .any (Rows.serialsNoneSpec.pre6 enc Try.prog Try.f4 [] false) (Rows.serialsNoneSpec.post enc Try.prog Try.f4 false true false false) := by
  refine law_lifted (C := Try.checked) (fn := Try.f4) own started (by kernel_rfl) Try.func4 laidOut (by kernel_rfl) (tb := 4) (by kernel_rfl) (by kernel_rfl) rfl ?_
    (ChangeSpec.witness6 (enc := enc) (C := Try.checked) false ⟨#[], #[.agg #[.int .u8 0, .int .u8 0, .int .u16 0, .int .u16 0, .int .u16 0], .slice none 0 0, .agg #[.int .u8 0, .int .u8 0, .int .u8 0]], []⟩ 8 (by kernel_rfl) (by kernel_rfl) (by kernel_rfl) (by kernel_rfl)) ?_
  · intro ds hd
    match ds, hd with
    | [_, _, _], _ => rfl
  · intro W base args ds ps hval hA _
    exact law_calls1 plain kwN_ok none_pa (by kernel_rfl) (by kernel_rfl) none_runs hval hA (fun x hx => nomatch hx)

theorem none_holds : Rows.SerialsNoneSaid :=
  OpenClaim.holds_of_wide 4 Try.f4 rfl rfl rfl rfl rfl rfl rfl ⟨rfl, rfl, rfl, rfl, rfl⟩ rfl rfl rfl rfl rfl (by kernel_rfl) Try.func4 (by kernel_rfl)
    (of_decide_eq_true (by kernel_rfl)) (by unfold Func.isWrapper; first | (rw [if_pos (by decide +kernel)]; kernel_rfl) | (rw [if_neg (by decide +kernel)]; exact ⟨rfl, rfl⟩))
    (fun os started H enc _ => none_lifted os started H enc)
#print axioms none_holds
end Go.Proofs.Ytcipfcbaclfnhaa
