/-
  What is proved here: the calls of DisksRun, DisksSurvive and DisksClass in plugboardlaw39.DisksKnown.
  Conditions: none.
-/
import Derived.Test.YtehhcghjclefjaaGreatDoorKC0
import Derived.Test.YtehhcghjclefjaaGreatDoorKC1
import Derived.Test.YtehhcghjclefjaaGreatDoorKC2
import Derived.Test.YtehhcghjclefjaaGreatDoorKC3
import Derived.Test.YtehhcghjclefjaaGreatDoorKC4
import Derived.Test.YtehhcghjclefjaaGreatDoorKC5
import Derived.Test.YtehhcghjclefjaaGreatDoorKC6
import Derived.Test.YtehhcghjclefjaaGreatDoorKC7
import Derived.Test.YtehhcghjclefjaaGreatDoorKR0
import Derived.Test.YtehhcghjclefjaaGreatDoorKR1
import Derived.Test.YtehhcghjclefjaaGreatDoorKR2
import Derived.Test.YtehhcghjclefjaaGreatDoorKR3
import Derived.Test.YtehhcghjclefjaaGreatDoorKR4
import Derived.Test.YtehhcghjclefjaaGreatDoorKR5
import Derived.Test.YtehhcghjclefjaaGreatDoorKR6
import Derived.Test.YtehhcghjclefjaaGreatDoorKR7
import Derived.Test.YtehhcghjclefjaaGreatDoorKS0
import Derived.Test.YtehhcghjclefjaaGreatDoorKS1
import Derived.Test.YtehhcghjclefjaaGreatDoorKS2
import Derived.Test.YtehhcghjclefjaaGreatDoorKS3
namespace Go.Proofs.YtehhcghjclefjaaGreatDoor
open Go.Sy Go.RowKit

set_option maxRecDepth 1000000

theorem runC_all : ∀ n, n < 25 → runC n = true
  | 0, _ => kC_0
  | 1, _ => kC_1
  | 2, _ => kC_2
  | 3, _ => kC_3
  | 4, _ => kC_4
  | 5, _ => kC_5
  | 6, _ => kC_6
  | 7, _ => kC_7
  | 8, _ => kC_8
  | 9, _ => kC_9
  | 10, _ => kC_10
  | 11, _ => kC_11
  | 12, _ => kC_12
  | 13, _ => kC_13
  | 14, _ => kC_14
  | 15, _ => kC_15
  | 16, _ => kC_16
  | 17, _ => kC_17
  | 18, _ => kC_18
  | 19, _ => kC_19
  | 20, _ => kC_20
  | 21, _ => kC_21
  | 22, _ => kC_22
  | 23, _ => kC_23
  | 24, _ => kC_24
  | _ + 25, h => absurd h (by omega)

theorem runR_all : ∀ n, n < 25 → runR n = true
  | 0, _ => kR_0
  | 1, _ => kR_1
  | 2, _ => kR_2
  | 3, _ => kR_3
  | 4, _ => kR_4
  | 5, _ => kR_5
  | 6, _ => kR_6
  | 7, _ => kR_7
  | 8, _ => kR_8
  | 9, _ => kR_9
  | 10, _ => kR_10
  | 11, _ => kR_11
  | 12, _ => kR_12
  | 13, _ => kR_13
  | 14, _ => kR_14
  | 15, _ => kR_15
  | 16, _ => kR_16
  | 17, _ => kR_17
  | 18, _ => kR_18
  | 19, _ => kR_19
  | 20, _ => kR_20
  | 21, _ => kR_21
  | 22, _ => kR_22
  | 23, _ => kR_23
  | 24, _ => kR_24
  | _ + 25, h => absurd h (by omega)

theorem runS_all : ∀ n, n < 25 → runS n = true
  | 0, _ => kS_0
  | 1, _ => kS_1
  | 2, _ => kS_2
  | 3, _ => kS_3
  | 4, _ => kS_4
  | 5, _ => kS_5
  | 6, _ => kS_6
  | 7, _ => kS_7
  | 8, _ => kS_8
  | 9, _ => kS_9
  | 10, _ => kS_10
  | 11, _ => kS_11
  | 12, _ => kS_12
  | 13, _ => kS_13
  | 14, _ => kS_14
  | 15, _ => kS_15
  | 16, _ => kS_16
  | 17, _ => kS_17
  | 18, _ => kS_18
  | 19, _ => kS_19
  | 20, _ => kS_20
  | 21, _ => kS_21
  | 22, _ => kS_22
  | 23, _ => kS_23
  | 24, _ => kS_24
  | _ + 25, h => absurd h (by omega)


end Go.Proofs.YtehhcghjclefjaaGreatDoor
