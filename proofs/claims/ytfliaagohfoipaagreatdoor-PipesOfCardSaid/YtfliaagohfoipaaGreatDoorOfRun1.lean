/-
  What is proved here: some runs of plugboardlaw23.PipesOf return true.
  Conditions: the table of the pipes' package is laid.
-/
import Derived.Test.YtfliaagohfoipaaGreatDoorOfDefs
namespace Go.Proofs.YtfliaagohfoipaaGreatDoor
open Go.Sy Go.RowKit

set_option maxRecDepth 1000000

theorem of_11 : ofRun (ofP (1, 1) (1, 1) (5, 10)) = true := by kernel_rfl
theorem of_12 : ofRun (ofP (1, 1) (1, 1) (11, 16)) = true := by kernel_rfl
theorem of_14 : ofRun (ofP (2, 2) (0, 0) (0, 255)) = true := by kernel_rfl

end Go.Proofs.YtfliaagohfoipaaGreatDoor
