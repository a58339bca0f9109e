/-
  What is proved here: what is known of the program's functions of one byte; which calls are joined.
  Conditions: the table of math/bits is laid.
-/
import Derived.Test.YtcipfcbaclfnhaaDoorBase
import Derived.Test.YtcipfcbaclfnhaaDoorSyArgs2
import Derived.Test.YtcipfcbaclfnhaaDoorSyTab
import Derived.Test.YtcipfcbaclfnhaaDoorSyJoin
namespace Go.Proofs.YtcipfcbaclfnhaaDoor
open Go.Sy Go.RowKit

set_option maxRecDepth 1000000

def errTab : List Int := [12, 12, 12, 11, 13, 19, 6, 7, 12, 12, 12, 11, 13, 19, 14, 15, 12, 12, 12, 11, 13, 19, 2, 3, 12, 12, 12, 11, 13, 19, 10, 11, 12, 12, 12, 11, 13, 19, 18, 19, 12, 12, 12, 11, 13, 19, 6, 7, 12, 12, 12, 11, 13, 19, 14, 15, 12, 12, 12, 11, 13, 19, 2, 3, 12, 12, 12, 11, 13, 19, 10, 11, 12, 12, 12, 11, 13, 19, 18, 19, 12, 12, 12, 11, 13, 19, 6, 7, 12, 12, 12, 11, 13, 19, 14, 15, 12, 12, 12, 11, 13, 19, 2, 3, 12, 12, 12, 11, 13, 19, 10, 11, 12, 12, 12, 11, 13, 19, 18, 19, 12, 12, 12, 11, 13, 19, 6, 7, 12, 12, 12, 11, 13, 19, 14, 15, 12, 12, 12, 11, 13, 19, 2, 3, 12, 12, 12, 11, 13, 19, 10, 11, 12, 12, 12, 11, 13, 19, 18, 19, 12, 12, 12, 11, 13, 19, 6, 7, 12, 12, 12, 11, 13, 19, 14, 15, 12, 12, 12, 11, 13, 19, 2, 3, 12, 12, 12, 11, 13, 19, 10, 11, 12, 12, 12, 11, 13, 19, 18, 19, 12, 12, 12, 11, 13, 19, 6, 7, 12, 12, 12, 11, 13, 19, 14, 15, 12, 12, 12, 11, 13, 19, 2, 3, 12, 12, 12, 11, 13, 19, 10, 11, 12, 12, 12, 11, 13, 19, 18, 19, 12, 12, 12, 11, 13, 19, 6, 7, 12, 12, 12, 11, 13, 19, 14, 15]
def placeTab : List Int := [0, 1, 2, 3, 4, 5, 6, 7, 8, 9, 10, 11, 12, 13, 14, 15, -1, -1, -1, -1, -1, -1, -1, -1, -1, -1, -1, -1, -1, -1, -1, -1, -1, -1, -1, -1, -1, -1, -1, -1, -1, -1, -1, -1, -1, -1, -1, -1, -1, -1, -1, -1, -1, -1, -1, -1, -1, -1, -1, -1, -1, -1, -1, -1, -1, -1, -1, -1, -1, -1, -1, -1, -1, -1, -1, -1, -1, -1, -1, -1, -1, -1, -1, -1, -1, -1, -1, -1, -1, -1, -1, -1, -1, -1, -1, -1, -1, -1, -1, -1, -1, -1, -1, -1, -1, -1, -1, -1, -1, -1, -1, -1, -1, -1, -1, -1, -1, -1, -1, -1, -1, -1, -1, -1, -1, -1, -1, -1, 0, 17, 18, 19, 20, 21, 22, 23, 24, 25, 26, 27, 28, 29, 30, 31, -1, -1, -1, -1, -1, -1, -1, -1, -1, -1, -1, -1, -1, -1, -1, -1, -1, -1, -1, -1, -1, -1, -1, -1, -1, -1, -1, -1, -1, -1, -1, -1, -1, -1, -1, -1, -1, -1, -1, -1, -1, -1, -1, -1, -1, -1, -1, -1, -1, -1, -1, -1, -1, -1, -1, -1, -1, -1, -1, -1, -1, -1, -1, -1, -1, -1, -1, -1, -1, -1, -1, -1, -1, -1, -1, -1, -1, -1, -1, -1, -1, -1, -1, -1, -1, -1, -1, -1, -1, -1, -1, -1, -1, -1, -1, -1, -1, -1, -1, -1, -1, -1, -1, -1, -1, -1, -1, -1, -1, -1, -1, -1]
theorem err_runs : tabAll .i64 errTab (evFn Tryd.prog kw0 10 20 13) 256 = true := by kernel_rfl
theorem place_runs : tabAll .i64 placeTab (evFn Tryd.prog kw0 10 20 14) 256 = true := by kernel_rfl
noncomputable def kwJ : Kw := kwTab 13 .i64 errTab 0 19 (kwTab 14 .i64 placeTab (-1) 31 (kwJoin [9, 10, 11, 12, 17, 18, 19, 20] kw))
theorem kwJ_ok (ρ : Nat → Int) : KwOK Tryd.prog ρ kwJ :=
  kwTab_ok plain (callable plain (by kernel_rfl)) (kwTab_ok plain (callable plain (by kernel_rfl)) (kwJoin_ok (kw_ok ρ)) place_runs (by kernel_rfl)) err_runs (by kernel_rfl)
noncomputable def cfJ : FuncId → List V → M V := evFn Tryd.prog kwJ 10 20
theorem cfJ_ok (ρ : Nat → Int) : CallsOK Tryd.prog ρ cfJ := evFn_ok plain (kwJ_ok ρ) 10 20
theorem glob_fixed : allL (fun x => fixed x.2) glob = true := by kernel_rfl

end Go.Proofs.YtcipfcbaclfnhaaDoor
