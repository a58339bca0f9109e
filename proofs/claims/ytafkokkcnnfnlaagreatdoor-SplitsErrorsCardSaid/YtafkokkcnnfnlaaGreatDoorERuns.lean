/-
  What is proved here: the runs of plugboardlaw22.SplitsErrors are good.
  Conditions: none.
-/
import Derived.Test.YtafkokkcnnfnlaaGreatDoorEDefs
namespace Go.Proofs.YtafkokkcnnfnlaaGreatDoor
open Go.Sy Go.RowKit

set_option maxRecDepth 1000000

theorem err_no : headE errNo = true := by kernel_rfl
theorem err_many : headE errMany = true := by kernel_rfl
theorem err_end : endE = true := by kernel_rfl
theorem err_out0 : headE (errOut 0) = true := by kernel_rfl
theorem err_out1 : headE (errOut 1) = true := by kernel_rfl
theorem err_out2 : headE (errOut 2) = true := by kernel_rfl
theorem err_out3 : headE (errOut 3) = true := by kernel_rfl
theorem err_out4 : headE (errOut 4) = true := by kernel_rfl
theorem err_out5 : headE (errOut 5) = true := by kernel_rfl
theorem err_out6 : headE (errOut 6) = true := by kernel_rfl
theorem err_out7 : headE (errOut 7) = true := by kernel_rfl
theorem err_out8 : headE (errOut 8) = true := by kernel_rfl
theorem err_out9 : headE (errOut 9) = true := by kernel_rfl
theorem err_out10 : headE (errOut 10) = true := by kernel_rfl
theorem err_out11 : headE (errOut 11) = true := by kernel_rfl
theorem err_out12 : headE (errOut 12) = true := by kernel_rfl
theorem err_out13 : headE (errOut 13) = true := by kernel_rfl
theorem err_out14 : headE (errOut 14) = true := by kernel_rfl
theorem err_out15 : headE (errOut 15) = true := by kernel_rfl
theorem err_out16 : headE (errOut 16) = true := by kernel_rfl
theorem err_out17 : headE (errOut 17) = true := by kernel_rfl
theorem err_out18 : headE (errOut 18) = true := by kernel_rfl
theorem err_out19 : headE (errOut 19) = true := by kernel_rfl
theorem err_out20 : headE (errOut 20) = true := by kernel_rfl
theorem err_out21 : headE (errOut 21) = true := by kernel_rfl
theorem err_out22 : headE (errOut 22) = true := by kernel_rfl
theorem err_out23 : headE (errOut 23) = true := by kernel_rfl
theorem err_out24 : headE (errOut 24) = true := by kernel_rfl
theorem err_out25 : headE (errOut 25) = true := by kernel_rfl
theorem err_out26 : headE (errOut 26) = true := by kernel_rfl
theorem err_out27 : headE (errOut 27) = true := by kernel_rfl
theorem err_out28 : headE (errOut 28) = true := by kernel_rfl
theorem err_out29 : headE (errOut 29) = true := by kernel_rfl
theorem err_out30 : headE (errOut 30) = true := by kernel_rfl
theorem err_out31 : headE (errOut 31) = true := by kernel_rfl
theorem err_out32 : headE (errOut 32) = true := by kernel_rfl
theorem err_out33 : headE (errOut 33) = true := by kernel_rfl
theorem err_out34 : headE (errOut 34) = true := by kernel_rfl
theorem err_out35 : headE (errOut 35) = true := by kernel_rfl
theorem err_out36 : headE (errOut 36) = true := by kernel_rfl
theorem err_out37 : headE (errOut 37) = true := by kernel_rfl
theorem err_out38 : headE (errOut 38) = true := by kernel_rfl
theorem err_out39 : headE (errOut 39) = true := by kernel_rfl
theorem err_out40 : headE (errOut 40) = true := by kernel_rfl

theorem err_heads : ∀ q ∈ errQs, headE q = true := by
  unfold errQs
  rw [show List.range 41 = [0, 1, 2, 3, 4, 5, 6, 7, 8, 9, 10, 11, 12, 13, 14, 15, 16, 17, 18, 19, 20, 21, 22, 23, 24, 25, 26, 27, 28, 29, 30, 31, 32, 33, 34, 35, 36, 37, 38, 39, 40] from rfl]
  simp only [List.map_cons, List.map_nil, List.forall_mem_cons]
  exact ⟨err_no, err_many, err_out0, err_out1, err_out2, err_out3, err_out4, err_out5, err_out6, err_out7, err_out8, err_out9, err_out10, err_out11, err_out12, err_out13, err_out14, err_out15, err_out16, err_out17, err_out18, err_out19, err_out20, err_out21, err_out22, err_out23, err_out24, err_out25, err_out26, err_out27, err_out28, err_out29, err_out30, err_out31, err_out32, err_out33, err_out34, err_out35, err_out36, err_out37, err_out38, err_out39, err_out40, fun _ h => nomatch h⟩

end Go.Proofs.YtafkokkcnnfnlaaGreatDoor
