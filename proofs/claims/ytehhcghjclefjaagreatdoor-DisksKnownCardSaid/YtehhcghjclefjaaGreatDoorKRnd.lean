/-
  What is proved here: rounds of plugboardlaw39.DisksKnown are good.
  Conditions: none.
-/
import Derived.Test.YtehhcghjclefjaaGreatDoorKCalls
namespace Go.Proofs.YtehhcghjclefjaaGreatDoor
open Go.Sy Go.RowKit

set_option maxRecDepth 1000000

theorem kn_0 : roundK 0 = true := by kernel_rfl
theorem kn_1 : roundK 1 = true := by kernel_rfl
theorem kn_2 : roundK 2 = true := by kernel_rfl
theorem kn_3 : roundK 3 = true := by kernel_rfl
theorem kn_4 : roundK 4 = true := by kernel_rfl
theorem kn_5 : roundK 5 = true := by kernel_rfl
theorem kn_6 : roundK 6 = true := by kernel_rfl
theorem kn_7 : roundK 7 = true := by kernel_rfl
theorem kn_8 : roundK 8 = true := by kernel_rfl
theorem kn_9 : roundK 9 = true := by kernel_rfl
theorem kn_10 : roundK 10 = true := by kernel_rfl
theorem kn_11 : roundK 11 = true := by kernel_rfl
theorem kn_12 : roundK 12 = true := by kernel_rfl
theorem kn_13 : roundK 13 = true := by kernel_rfl
theorem kn_14 : roundK 14 = true := by kernel_rfl
theorem kn_15 : roundK 15 = true := by kernel_rfl
theorem kn_16 : roundK 16 = true := by kernel_rfl
theorem kn_17 : roundK 17 = true := by kernel_rfl
theorem kn_18 : roundK 18 = true := by kernel_rfl
theorem kn_19 : roundK 19 = true := by kernel_rfl
theorem kn_20 : roundK 20 = true := by kernel_rfl
theorem kn_21 : roundK 21 = true := by kernel_rfl
theorem kn_22 : roundK 22 = true := by kernel_rfl
theorem kn_23 : roundK 23 = true := by kernel_rfl
theorem kn_24 : roundK 24 = true := by kernel_rfl
theorem kn_25 : roundK 25 = true := by kernel_rfl
theorem kn_head : headK = true := by kernel_rfl
theorem kn_end : endK = true := by kernel_rfl
theorem kn_loop : place knPath knCode = .loop knLoop := by kernel_rfl
theorem kn_id : cId (place [.r, .r, .l, .r] knCode) = 0 := by kernel_rfl
theorem kn_slots : slots Tryz.f4.ntmps (paV [] 0 0) = 91 := by kernel_rfl
theorem kn_pa : Tryz.f4.params.toList.mapM (paOf Tryz.prog) = some [] := by kernel_rfl
theorem kn_rounds : ∀ n, n < 26 → roundK n = true
  | 0, _ => kn_0
  | 1, _ => kn_1
  | 2, _ => kn_2
  | 3, _ => kn_3
  | 4, _ => kn_4
  | 5, _ => kn_5
  | 6, _ => kn_6
  | 7, _ => kn_7
  | 8, _ => kn_8
  | 9, _ => kn_9
  | 10, _ => kn_10
  | 11, _ => kn_11
  | 12, _ => kn_12
  | 13, _ => kn_13
  | 14, _ => kn_14
  | 15, _ => kn_15
  | 16, _ => kn_16
  | 17, _ => kn_17
  | 18, _ => kn_18
  | 19, _ => kn_19
  | 20, _ => kn_20
  | 21, _ => kn_21
  | 22, _ => kn_22
  | 23, _ => kn_23
  | 24, _ => kn_24
  | 25, _ => kn_25
  | _ + 26, h => absurd h (by omega)

end Go.Proofs.YtehhcghjclefjaaGreatDoor
