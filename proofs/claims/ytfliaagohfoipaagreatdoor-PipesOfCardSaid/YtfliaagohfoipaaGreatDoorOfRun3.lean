/-
  What is proved here: some runs of plugboardlaw23.PipesOf return true.
  Conditions: the table of the pipes' package is laid.
-/
import Derived.Test.YtfliaagohfoipaaGreatDoorOfDefs
namespace Go.Proofs.YtfliaagohfoipaaGreatDoor
open Go.Sy Go.RowKit

set_option maxRecDepth 1000000

theorem of_18 : ofRun (ofP (2, 2) (1, 1) (5, 10)) = true := by kernel_rfl
theorem of_19 : ofRun (ofP (2, 2) (1, 1) (11, 16)) = true := by kernel_rfl
theorem of_24 : ofRun (ofP (2, 2) (3, 3) (17, 255)) = true := by kernel_rfl

end Go.Proofs.YtfliaagohfoipaaGreatDoor
