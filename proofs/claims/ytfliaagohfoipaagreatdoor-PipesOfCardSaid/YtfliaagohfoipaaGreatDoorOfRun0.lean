/-
  What is proved here: some runs of plugboardlaw23.PipesOf return true.
  Conditions: the table of the pipes' package is laid.
-/
import Derived.Test.YtfliaagohfoipaaGreatDoorOfDefs
namespace Go.Proofs.YtfliaagohfoipaaGreatDoor
open Go.Sy Go.RowKit

set_option maxRecDepth 1000000

theorem of_0 : ofRun (ofP (3, 255) (0, 255) (0, 255)) = true := by kernel_rfl
theorem of_1 : ofRun (ofP (0, 0) (0, 0) (0, 255)) = true := by kernel_rfl
theorem of_2 : ofRun (ofP (0, 0) (1, 1) (0, 255)) = true := by kernel_rfl
theorem of_3 : ofRun (ofP (0, 0) (2, 2) (0, 255)) = true := by kernel_rfl
theorem of_4 : ofRun (ofP (0, 0) (3, 3) (0, 255)) = true := by kernel_rfl
theorem of_5 : ofRun (ofP (0, 0) (4, 255) (0, 255)) = true := by kernel_rfl
theorem of_6 : ofRun (ofP (1, 1) (0, 0) (0, 255)) = true := by kernel_rfl
theorem of_7 : ofRun (ofP (1, 1) (2, 2) (0, 255)) = true := by kernel_rfl
theorem of_8 : ofRun (ofP (1, 1) (4, 255) (0, 255)) = true := by kernel_rfl
theorem of_9 : ofRun (ofP (1, 1) (1, 1) (17, 255)) = true := by kernel_rfl
theorem of_10 : ofRun (ofP (1, 1) (1, 1) (0, 4)) = true := by kernel_rfl

end Go.Proofs.YtfliaagohfoipaaGreatDoor
