/-
  What is proved here: some runs of plugboardlaw23.PipesOf return true.
  Conditions: the table of the pipes' package is laid.
-/
import Derived.Test.YtfliaagohfoipaaGreatDoorOfDefs
namespace Go.Proofs.YtfliaagohfoipaaGreatDoor
open Go.Sy Go.RowKit

set_option maxRecDepth 1000000

theorem of_13 : ofRun (ofP (1, 1) (3, 3) (0, 255)) = true := by kernel_rfl
theorem of_15 : ofRun (ofP (2, 2) (2, 2) (0, 255)) = true := by kernel_rfl
theorem of_16 : ofRun (ofP (2, 2) (4, 255) (0, 255)) = true := by kernel_rfl
theorem of_17 : ofRun (ofP (2, 2) (1, 1) (0, 4)) = true := by kernel_rfl
theorem of_20 : ofRun (ofP (2, 2) (1, 1) (17, 255)) = true := by kernel_rfl

end Go.Proofs.YtfliaagohfoipaaGreatDoor
