/-
  What is proved here: the runs of plugboardlaw20.TopologiesRoute, by the length of the first argument.
  Conditions: none.
-/
import Derived.Test.YthlpiijglhifmaaDoorBase
namespace Go.Proofs.YthlpiijglhifmaaDoor
open Go.Sy Go.RowKit

set_option maxRecDepth 1000000

def routePa : List Pa := [.arr [.int .u8], .arr [.int .u8]]
theorem route_pa : Tryd.f3.params.toList.mapM (paOf Tryd.prog) = some routePa := by kernel_rfl
noncomputable def kwR : Kw := kwCo Tryd.prog cfT 10 3 [0, 1, 4, 5, 6, 7, 8, 9, 10, 11, 12, 86, 90] kwT
theorem kwR_ok (ρ : Nat → Int) : KwOK Tryd.prog ρ kwR := kwCo_ok plain (cfT_ok ρ) (kwT_ok ρ)
def routeParts : List (Int × Int) := [(0, 3), (4, 4), (5, 5), (6, 6), (7, 8), (9, 9223372036854775807)]

theorem route_run0 : allTrue (evFn Tryd.prog kwR 10 20 3 (paV routePa 0 0) (mem1 [] routePa) ⟨[], setRng (paR routePa) 0 fun _ => (0, 3)⟩) = true := by kernel_rfl
theorem route_run1 : allTrue (evFn Tryd.prog kwR 10 20 3 (paV routePa 0 0) (mem1 [] routePa) ⟨[], setRng (paR routePa) 0 fun _ => (4, 4)⟩) = true := by kernel_rfl
theorem route_run2 : allTrue (evFn Tryd.prog kwR 10 20 3 (paV routePa 0 0) (mem1 [] routePa) ⟨[], setRng (paR routePa) 0 fun _ => (5, 5)⟩) = true := by kernel_rfl
theorem route_run3 : allTrue (evFn Tryd.prog kwR 10 20 3 (paV routePa 0 0) (mem1 [] routePa) ⟨[], setRng (paR routePa) 0 fun _ => (6, 6)⟩) = true := by kernel_rfl
theorem route_run4 : allTrue (evFn Tryd.prog kwR 10 20 3 (paV routePa 0 0) (mem1 [] routePa) ⟨[], setRng (paR routePa) 0 fun _ => (7, 8)⟩) = true := by kernel_rfl
theorem route_run5 : allTrue (evFn Tryd.prog kwR 10 20 3 (paV routePa 0 0) (mem1 [] routePa) ⟨[], setRng (paR routePa) 0 fun _ => (9, 9223372036854775807)⟩) = true := by kernel_rfl

end Go.Proofs.YthlpiijglhifmaaDoor
