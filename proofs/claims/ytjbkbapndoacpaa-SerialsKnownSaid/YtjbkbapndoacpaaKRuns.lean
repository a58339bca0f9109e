/-
  What is proved here: the calls of SerialsRequests and SerialsCarry in plugboardlaw41.SerialsKnown.
  Conditions: none.
-/
import Derived.Test.YtjbkbapndoacpaaKReq0
import Derived.Test.YtjbkbapndoacpaaKReq1
import Derived.Test.YtjbkbapndoacpaaKReq2
import Derived.Test.YtjbkbapndoacpaaKReq3
import Derived.Test.YtjbkbapndoacpaaKReq4
import Derived.Test.YtjbkbapndoacpaaKCa0
import Derived.Test.YtjbkbapndoacpaaKCa1
import Derived.Test.YtjbkbapndoacpaaKCa2
import Derived.Test.YtjbkbapndoacpaaKCa3
import Derived.Test.YtjbkbapndoacpaaKCa4
import Derived.Test.YtjbkbapndoacpaaKCa5
import Derived.Test.YtjbkbapndoacpaaKCa6
import Derived.Test.YtjbkbapndoacpaaKCa7
import Derived.Test.YtjbkbapndoacpaaKCa8
import Derived.Test.YtjbkbapndoacpaaKCa9
import Derived.Test.YtjbkbapndoacpaaKCb0
import Derived.Test.YtjbkbapndoacpaaKCb1
import Derived.Test.YtjbkbapndoacpaaKCb2
import Derived.Test.YtjbkbapndoacpaaKCb3
import Derived.Test.YtjbkbapndoacpaaKCb4
namespace Go.Proofs.Ytjbkbapndoacpaa
open Go.Sy Go.RowKit

set_option maxRecDepth 1000000

theorem asks_all : ∀ n, n < 20 → asks n = true
  | 0, _ => KReq_0
  | 1, _ => KReq_1
  | 2, _ => KReq_2
  | 3, _ => KReq_3
  | 4, _ => KReq_4
  | 5, _ => KReq_5
  | 6, _ => KReq_6
  | 7, _ => KReq_7
  | 8, _ => KReq_8
  | 9, _ => KReq_9
  | 10, _ => KReq_10
  | 11, _ => KReq_11
  | 12, _ => KReq_12
  | 13, _ => KReq_13
  | 14, _ => KReq_14
  | 15, _ => KReq_15
  | 16, _ => KReq_16
  | 17, _ => KReq_17
  | 18, _ => KReq_18
  | 19, _ => KReq_19
  | _ + 20, h => absurd h (by omega)

theorem carryA_all : ∀ n, n < 20 → carryA n = true
  | 0, _ => KCa_0
  | 1, _ => KCa_1
  | 2, _ => KCa_2
  | 3, _ => KCa_3
  | 4, _ => KCa_4
  | 5, _ => KCa_5
  | 6, _ => KCa_6
  | 7, _ => KCa_7
  | 8, _ => KCa_8
  | 9, _ => KCa_9
  | 10, _ => KCa_10
  | 11, _ => KCa_11
  | 12, _ => KCa_12
  | 13, _ => KCa_13
  | 14, _ => KCa_14
  | 15, _ => KCa_15
  | 16, _ => KCa_16
  | 17, _ => KCa_17
  | 18, _ => KCa_18
  | 19, _ => KCa_19
  | _ + 20, h => absurd h (by omega)

theorem carryB_all : ∀ n, n < 20 → carryB n = true
  | 0, _ => KCb_0
  | 1, _ => KCb_1
  | 2, _ => KCb_2
  | 3, _ => KCb_3
  | 4, _ => KCb_4
  | 5, _ => KCb_5
  | 6, _ => KCb_6
  | 7, _ => KCb_7
  | 8, _ => KCb_8
  | 9, _ => KCb_9
  | 10, _ => KCb_10
  | 11, _ => KCb_11
  | 12, _ => KCb_12
  | 13, _ => KCb_13
  | 14, _ => KCb_14
  | 15, _ => KCb_15
  | 16, _ => KCb_16
  | 17, _ => KCb_17
  | 18, _ => KCb_18
  | 19, _ => KCb_19
  | _ + 20, h => absurd h (by omega)


end Go.Proofs.Ytjbkbapndoacpaa
