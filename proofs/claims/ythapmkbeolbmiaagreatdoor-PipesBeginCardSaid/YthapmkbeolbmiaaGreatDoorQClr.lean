/-
  What is proved here: what pipes.Clear returns.
  Conditions: none.
-/
import Derived.Test.YthapmkbeolbmiaaGreatDoorQAll
import Derived.Test.YthapmkbeolbmiaaGreatDoorQApp
namespace Go.Proofs.YthapmkbeolbmiaaGreatDoor
open Go.Proofs Go.RowKit

attribute [local go_sem] lt2 lt3 lt4 lt5

theorem ret_cell1 {P : Program} {fn : Func} {p : Tmp} {ty : TypeId} {R : Ending → World → Prop} {a : Act} {w : World} (g : Nat) (t : TypeId) (cs : Array Value) (d : TypeDesc) (hres : fn.results = #[.cell p ty])
    (hp : a.tmps.getD p undef = .pointer (some ⟨g, 0, none⟩)) (hg : w.heap[g]? = some (.cells cs t (0, 0))) (hty : P.underlying ty = some d) (hd : (match d with | .struct _ | .array _ _ => true | _ => false) = true)
    (hi : (P.info? ty).map (·.size) = some cs.size) (hde : a.defers = []) (hR : R (.returned (.agg cs)) w) : bodyPost P fn R .ret a w := by
  refine bodyPost_ret_by ?_ hde hR
  exact results_cell_row hres _ w g t cs (0, 0) d hp hg hty hd hi

set_option maxHeartbeats 1000000 in
set_option maxRecDepth 1000000 in
theorem clear_ret (ad en : Int) (inn : Bool) (k mx per sp hu po : Int) (tg ha : Bool) : Ret 23 #[pipeV ad en inn k mx per sp hu po tg ha] (pipeV ad en inn k mx per sp hu po false false) := by
  intro w
  unfold pipeV
  go_enter Tryz.func23, Tryz.ntmps23
  go_wp2_with fail
  exact ret_cell1 _ _ _ _ rfl rfl (alloc2_1 w _ _) Tryz.underlying73 rfl (by kernel_rfl) rfl ⟨rfl, ((Below.refl w.heap.size w).alloc (Nat.le_refl _) _).alloc (by simp) _⟩
end Go.Proofs.YthapmkbeolbmiaaGreatDoor
