/-
  What is proved here: what an endpoint's read, acknowledged, take and written do.
  Conditions: what the endpoint's cells hold.
-/
import Derived.Test.YthifcblajimppaaISend
import Derived.Deep.CutRange
import Derived.Deep.CutBlock
namespace Go.Proofs.Ythifcblajimppaa
open Go.Proofs Go.RowKit
attribute [local go_sem] lt2 lt3 lt4 lt5
attribute [-go_sem] Builtin.append_
theorem ret_cellT {P : Program} {fn : Func} {p u : Tmp} {ty : TypeId} {R : Ending → World → Prop} {a : Act} {w : World} (g : Nat) (t : TypeId) (cs : Array Value) (d : TypeDesc) (v : Value) (hres : fn.results = #[.cell p ty, .tmp u])
  (hp : a.tmps.getD p undef = .pointer (some ⟨g, 0, none⟩)) (hu : a.tmps.getD u undef = v) (hg : w.heap[g]? = some (.cells cs t (0, 0))) (hty : P.underlying ty = some d) (hd : (match d with | .struct _ | .array _ _ => true | _ => false) = true)
  (hi : (P.info? ty).map (·.size) = some cs.size) (hde : a.defers = []) (hR : R (.returned (.tuple #[.agg cs, v])) w) : bodyPost P fn R .ret a w := by
 refine bodyPost_ret_by ?_ hde hR
 have hr : (results fn a.tmps).run P w = ((asAddr (a.tmps.getD p undef)).run P w).andThen fun a₁ w₁ => ((loadVar ty a₁).run P w₁).andThen fun v w₂ => .ok (.tuple #[v, a.tmps.getD u undef]) w₂ := by
  simp only [results, hres]
  simp [Sem.run_bind, Result.andThen]
 rw [hr, hp, hu]
 have h1 := run_loadVar_row (P := P) w g t ty cs (0, 0) d hg hty hd hi
 simp [asAddr, h1]
def epC (Q : Option Addr) (qn qc : Nat) (room : Int) (T : Option Addr) (tn tc : Nat) (num : Int) (inn : Bool) (kind mx : Int) (tg ha : Bool) : Array Value :=
 #[.slice Q qn qc, .int .i64 room, .slice T tn tc, .int .u8 num, .bool inn, .int .u8 kind, .int .i64 mx, .bool tg, .bool ha]
set_option maxHeartbeats 2000000 in
theorem answer_ret (pid : Int) (w : World) :
  Calls Try.prog 100 #[.int .u8 pid] w fun e w' => e = .returned (.tuple #[pkV ⟨pid, 0, 0, []⟩ (.slice none 0 0), .bool true]) ∧ Below w.heap.size w w' := by
 have hb : ∀ o, Below w.heap.size w (w.alloc o) := fun o => (Below.refl w.heap.size w).alloc (Nat.le_refl _) o
 go_enter Try.func100, Try.ntmps100
 go_wp2_with fail
 exact ret_cellT _ _ _ _ _ rfl rfl rfl (heap_alloc_new w _) Try.underlying113 rfl (by kernel_rfl) rfl ⟨rfl, hb _⟩
set_option maxHeartbeats 4000000 in
set_option maxRecDepth 100000 in
theorem read_nak (E : Nat) (Q : Option Addr) (qc : Nat) (room : Int) (T : Option Addr) (tn tc : Nat) (num : Int) (inn : Bool) (mx : Int) (tg : Bool) (w : World) (hE : w.heap[E]? = some (.cells (epC Q 0 qc room T tn tc num inn 2 mx tg false) 91 (0, 0))) :
  Calls Try.prog 98 #[.pointer (some ⟨E, 0, none⟩)] w fun e w' => e = .returned (.tuple #[pkV ⟨10, 0, 0, []⟩ (.slice none 0 0), .bool true]) ∧ Below w.heap.size w w' := by
 have hb : ∀ o, Below w.heap.size w (w.alloc o) := fun o => (Below.refl w.heap.size w).alloc (Nat.le_refl _) o
 have hX : ∀ o, (w.alloc o).heap[E]? = some (.cells (epC Q 0 qc room T tn tc num inn 2 mx tg false) 91 (0, 0)) := fun o => heap_below hE (hb o)
 unfold epC at hX
 have c0 := fun o => cell_of (hX o) 0
 have c5 := fun o => cell_of (hX o) 5
 have c8 := fun o => cell_of (hX o) 8
 clear hX hE
 go_enter Try.func98, Try.ntmps98
 go_wp2_with fail
 refine (answer_ret 10 _).mono ?_
 rintro e w1 ⟨rfl, hb1⟩
 have hZ := heap_below (heap_alloc_new w (.cells #[.int .u8 0, .int .u8 0, .int .u8 0, .int .u16 0, .int .u8 0, .int .u8 0, .bool false, .bool false, .int .u8 0, .slice none 0 0] 113)) hb1
 have hbw := (hb (.cells #[.int .u8 0, .int .u8 0, .int .u8 0, .int .u16 0, .int .u8 0, .int .u8 0, .bool false, .bool false, .int .u8 0, .slice none 0 0] 113)).trans (hb1.mono (by simp))
 unfold pkV
 go_wp2_with (guard_target =~ wpList _ _ _ (_ :: _) _ _; (refine wpList_store_row rfl (.tmp 2) (.tmp 55) 113 rfl w.heap.size 0 113 _ _ #[.int .u8 10, .int .u8 0, .int .u8 0, .int .u16 0, .int .u8 0, .int .u8 0, .bool false, .bool false, .int .u8 0, .slice none 0 0] rfl rfl hZ (by kernel_rfl) (by simp) rfl rfl ?_; intro w2 hZ2 hW2))
 refine ret_cellT _ _ _ _ _ rfl rfl rfl hZ2 Try.underlying113 rfl (by kernel_rfl) rfl ?_
 exact ⟨rfl, hbw.trans (hW2.below (Nat.le_refl _))⟩
def ReadEnd (tg : Bool) (xs : List Int) (w : World) (e : Ending) (w' : World) : Prop :=
 Below w.heap.size w w' ∧ ∃ g c, e = .returned (.tuple #[pkV ⟨if tg then 11 else 3, 0, 0, xs⟩ (.slice (some ⟨g, 0, none⟩) xs.length c), .bool true]) ∧ F8 w' g xs.length c xs ∧ w.heap.size ≤ g
set_option maxHeartbeats 4000000 in
set_option maxRecDepth 100000 in
theorem read_data (E : Nat) (a : Addr) (qn qc : Nat) (room : Int) (T : Option Addr) (tn tc : Nat) (num : Int) (inn : Bool) (mx : Int) (tg : Bool) (A : Option Addr) (n c : Nat) (xs : List Int) (w : World) (hE : w.heap[E]? = some (.cells (epC (some a) qn qc room T tn tc num inn 2 mx tg false) 91 (0, 0)))
  (hq : 0 < qn) (hA : w.cell? a = some (.slice A n c)) (hU : U8 w A n c xs) (hn : n ≤ 1024) :
  Calls Try.prog 98 #[.pointer (some ⟨E, 0, none⟩)] w (ReadEnd tg xs w) := by
 have hb : ∀ o, Below w.heap.size w (w.alloc o) := fun o => (Below.refl w.heap.size w).alloc (Nat.le_refl _) o
 have hX : ∀ o, (w.alloc o).heap[E]? = some (.cells (epC (some a) qn qc room T tn tc num inn 2 mx tg false) 91 (0, 0)) := fun o => heap_below hE (hb o)
 unfold epC at hX
 have c0 := fun o => cell_of (hX o) 0
 have c5 := fun o => cell_of (hX o) 5
 have c7 := fun o => cell_of (hX o) 7
 have c8 := fun o => cell_of (hX o) 8
 have hA2 : ∀ o, (w.alloc o).cell? a = some (.slice A n c) := fun o => ((hb o).cell (World.block_lt_of_cell? _ _ hA)).trans hA
 have q1 : ((qn : Int) == 0) = false := by simp; omega
 have q2 : (0 : Int) < (qn : Int) := by omega
 have q3 : ¬ (qn : Int) = 0 := by omega
 have hcl := fun o => clone_x A n c xs (w.alloc o) (hU.alloc o) (by omega)
 clear hX hE hA hU
 go_enter Try.func98, Try.ntmps98
 cases tg
 all_goals
  go_wp2_with fail
  refine (hcl _).mono ?_
  rintro e w1 ⟨g, c', rfl, hF, hg, hb1⟩
  have hZ := heap_below (heap_alloc_new w (.cells #[.int .u8 0, .int .u8 0, .int .u8 0, .int .u16 0, .int .u8 0, .int .u8 0, .bool false, .bool false, .int .u8 0, .slice none 0 0] 113)) hb1
  have hbw := (hb (.cells #[.int .u8 0, .int .u8 0, .int .u8 0, .int .u16 0, .int .u8 0, .int .u8 0, .bool false, .bool false, .int .u8 0, .slice none 0 0] 113)).trans (hb1.mono (by simp))
  have hgl : w.heap.size < g := by simp at hg; omega
  go_wp2_with (guard_target =~ wpList _ _ _ (_ :: _) _ _; first
   | (refine wpList_store_row rfl (.tmp 2) (.tmp 79) 113 rfl w.heap.size 0 113 _ _ #[.int .u8 3, .int .u8 0, .int .u8 0, .int .u16 0, .int .u8 0, .int .u8 0, .bool false, .bool false, .int .u8 0, .slice (some ⟨g, 0, none⟩) xs.length c'] rfl rfl hZ (by kernel_rfl) (by simp) rfl rfl ?_; intro w2 hZ2 hW2)
   | (refine wpList_store_row rfl (.tmp 2) (.tmp 70) 113 rfl w.heap.size 0 113 _ _ #[.int .u8 11, .int .u8 0, .int .u8 0, .int .u16 0, .int .u8 0, .int .u8 0, .bool false, .bool false, .int .u8 0, .slice (some ⟨g, 0, none⟩) xs.length c'] rfl rfl hZ (by kernel_rfl) (by simp) rfl rfl ?_; intro w2 hZ2 hW2))
  refine ret_cellT _ _ _ _ _ rfl rfl rfl hZ2 Try.underlying113 rfl (by kernel_rfl) rfl ?_
  exact ⟨hbw.trans (hW2.below (Nat.le_refl _)), g, c', rfl, hF.heap (fun o ho => (hW2.other g (by omega)).trans ho), by omega⟩
def AckEnd (E : Nat) (a : Addr) (qn qc : Nat) (room : Int) (T : Option Addr) (tn tc : Nat) (num : Int) (inn : Bool) (kind mx : Int) (tg ha : Bool) (w : World) (e : Ending) (w' : World) : Prop :=
 e = .returned (.tuple #[]) ∧ Wrote E w w' ∧ ∃ Q' c', w'.heap[E]? = some (.cells (epC (some Q') qn c' room T tn tc num inn kind mx (!tg) ha) 91 (0, 0)) ∧ c' = qc - 1 ∧ (Q' = a.add 1 ∨ (qn = 0 ∧ Q' = a))
set_option maxHeartbeats 4000000 in
set_option maxRecDepth 100000 in
theorem ack_ret (E : Nat) (a : Addr) (qn qc : Nat) (room : Int) (T : Option Addr) (tn tc : Nat) (num : Int) (inn : Bool) (kind mx : Int) (tg ha : Bool) (w : World) (hE : w.heap[E]? = some (.cells (epC (some a) (qn + 1) qc room T tn tc num inn kind mx tg ha) 91 (0, 0))) (hqc : qn + 1 ≤ qc) :
  Calls Try.prog 97 #[.pointer (some ⟨E, 0, none⟩)] w (AckEnd E a qn qc room T tn tc num inn kind mx tg ha w) := by
 have hX := hE
 unfold epC at hX
 have c0 := cell_of hX 0
 have f0 := frozen_of hX 0
 have c7 := cell_of hX 7
 have f7 := frozen_of hX 7
 have q1 : (((qn + 1 : Nat) : Int) == 0) = false := by simp; omega
 have q2 : (1 : Int) ≤ ((qn + 1 : Nat) : Int) := by omega
 have q3 : ((qn + 1 : Nat) : Int) ≤ (qc : Int) := by omega
 have HX := Lib.hid hX
 clear hX hE
 by_cases h1 : qc = 1
 ·subst h1
  obtain rfl : qn = 0 := by omega
  go_enter Try.func97, Try.ntmps97
  go_wp2_with fail
  go_end0
  have hP := ((Put1.refl HX.out).set 0 (.slice (some a) 0 0)).set 7 (.bool (!tg))
  exact ⟨rfl, hP.wrote, a, 0, hP.heap, rfl, .inr ⟨rfl, rfl⟩⟩
 ·have q4 : ((qc : Int) == 1) = false := by simp; omega
  have q5 : ¬ qc = 1 := h1
  go_enter Try.func97, Try.ntmps97
  go_wp2_with fail
  go_end0
  have hP := ((Put1.refl HX.out).set 0 (.slice (some ⟨a.block, a.off + 1, none⟩) qn (qc - 1))).set 7 (.bool (!tg))
  exact ⟨rfl, hP.wrote, _, _, hP.heap, rfl, .inl rfl⟩
end Go.Proofs.Ythifcblajimppaa
