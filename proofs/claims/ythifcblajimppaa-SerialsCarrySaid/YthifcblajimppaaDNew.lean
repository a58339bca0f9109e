/-
  What is proved here: writes and look-ups of maps whose keys are structs or arrays of numbers and booleans.
  Conditions: what the map's block holds.
  What is proved here: what endpoints.New, serials.New, NewSet and Set.none return for the law's desk.
  Conditions: the packets' greatest length is 1 to 1024.
-/
import Derived.Test.YthifcblajimppaaDWrite
import Derived.DeepKeys5
namespace Go.Proofs.Ythifcblajimppaa
open Go.Proofs Go.RowKit
theorem laid_out : laidOutB Try.prog = true := by kernel_rfl
theorem law_key : WideMaps.KeyLaw Try.prog 100 := deep_law_gate laid_out (Nat.le_of_ble_eq_true (by kernel_rfl)) (Nat.le_of_ble_eq_true (by kernel_rfl)) (by kernel_rfl) (by kernel_rfl)
theorem law_req : WideMaps.KeyLaw Try.prog 101 := deep_law_gate laid_out (Nat.le_of_ble_eq_true (by kernel_rfl)) (Nat.le_of_ble_eq_true (by kernel_rfl)) (by kernel_rfl) (by kernel_rfl)
theorem map_get {t k e : TypeId} (K : WideMaps.KeyLaw Try.prog k) (ht : Try.prog.underlying t = some (.map k e)) {b clock : Nat} {es : Array MapEntry} {w : World} (hb : w.heap[b]? = some (.map es clock)) {key v : Value} {kl : Lit} (hkey : keyOf Try.prog k key = some kl)
  (hes : ∀ x ∈ es.toList, ∃ l, keyOf Try.prog k x.key = some l) (hin : ∃ x ∈ es.toList, x.key = key) (hv : ∀ x ∈ es.toList, x.key = key → x.val = v) :
  (Instr.lookup t (.map (some b)) key false).run Try.prog w = .ok v w := by
 have hm := MapKept.run_getObj_map (P := Try.prog) hb
 have hc := K.check w es.isEmpty hkey
 rcases K.find w hkey es.toList hes with ⟨_, h2⟩ | ⟨j, x, h1, h2, h3⟩
 ·obtain ⟨x, hx, e⟩ := hin
  exact absurd e (h2 x hx)
 ·have hx := hv x (List.mem_of_getElem? h2) h3
  subst hx
  simp [Instr.lookup, run_underlying ht, hm, hc, h1]
theorem map_put {t k e : TypeId} (K : WideMaps.KeyLaw Try.prog k) (ht : Try.prog.underlying t = some (.map k e)) {b clock : Nat} {es : Array MapEntry} {w : World} (hb : w.heap[b]? = some (.map es clock)) {key : Value} {kl : Lit} (val : Value) (hkey : keyOf Try.prog k key = some kl)
  (hes : ∀ x ∈ es.toList, (∃ l, keyOf Try.prog k x.key = some l) ∧ x.key ≠ key) :
  ∃ w', (Instr.mapUpdate t (.map (some b)) key val).run Try.prog w = .ok () w' ∧ Wrote b w w' ∧ w'.heap[b]? = some (.map (es.push ⟨key, val, clock⟩) (clock + 1)) := by
 have hm := MapKept.run_getObj_map (P := Try.prog) hb
 have hc := K.check w false hkey
 have hlt := (Array.getElem?_eq_some_iff.1 hb).1
 refine ⟨{ w with heap := w.heap.setIfInBounds b (.map (es.push ⟨key, val, clock⟩) (clock + 1)) }, ?_, ⟨rfl, rfl, rfl, by simp, fun i hi => by simp [Ne.symm hi]⟩, by simp [hlt]⟩
 rcases K.find w hkey es.toList (fun x hx => (hes x hx).1) with ⟨h1, _⟩ | ⟨j, x, h1, h2, h3⟩
 ·simp [Instr.mapUpdate, run_underlying ht, hm, hc, h1, MapKept.run_setObj_map _ hb]
 ·exact absurd h3 (hes x (List.mem_of_getElem? h2)).2
end Go.Proofs.Ythifcblajimppaa

namespace Go.Proofs.Ythifcblajimppaa
open Go.Proofs Go.RowKit
attribute [local go_sem] lt2 lt3 lt4 lt5
def NewEnd (num : Int) (inn : Bool) (kind : Int) (mx : Nat) (w : World) (e : Ending) (w' : World) : Prop :=
 ∃ g, e = .returned (.tuple #[.pointer (some ⟨g, 0, none⟩), .int .i64 0]) ∧ w.heap.size ≤ g ∧ w'.heap[g]? = some (.cells (epC none 0 0 0 none 0 0 num inn kind mx false false) 91 (0, 0)) ∧ Below w.heap.size w w'
set_option maxHeartbeats 4000000 in
set_option maxRecDepth 100000 in
theorem new_ret (num : Int) (inn : Bool) (kind : Int) (mx : Nat) (w : World) (hm : 1 ≤ mx ∧ mx ≤ 1024) (hc : (num = 1 ∧ inn = true ∧ kind = 2) ∨ (num = 2 ∧ inn = false ∧ kind = 2) ∨ (num = 3 ∧ inn = true ∧ kind = 3)) :
  Calls Try.prog 14 #[.agg #[.int .u8 num, .bool inn, .int .u8 kind, .int .i64 mx]] w (NewEnd num inn kind mx w) := by
 have q1 : decide ((mx : Int) < 1) = false := by simp; omega
 have q2 : decide ((1024 : Int) < (mx : Int)) = false := by simp; omega
 have q3 : decide (mx < 1) = false := by simp; omega
 have q4 : decide (1024 < mx) = false := by simp; omega
 have hfin : ∀ o1 o2 : Obj, Below w.heap.size w ((w.alloc o1).alloc o2) := fun o1 o2 => ((Below.refl w.heap.size w).alloc (Nat.le_refl _) o1).alloc (by simp) o2
 have h2 : ∀ o1 (cs : Array Value), ((w.alloc o1).alloc (.cells cs 91 (0, 0))).heap[w.heap.size + 1]? = some (.cells cs 91 (0, 0)) := fun o1 cs => by
  have := heap_alloc_new (w.alloc o1) (.cells cs 91 (0, 0))
  rwa [show (w.alloc o1).heap.size = w.heap.size + 1 by simp] at this
 rcases hc with ⟨rfl, rfl, rfl⟩ | ⟨rfl, rfl, rfl⟩ | ⟨rfl, rfl, rfl⟩
 all_goals
  go_enter Try.func14, Try.ntmps14
  go_wp2_with fail
  go_ret2
  exact ⟨_, rfl, by omega, h2 _ _, hfin _ _⟩
set_option maxHeartbeats 1000000 in
theorem sernew_ret (w : World) : Calls Try.prog 15 #[.int .u16 5] w fun e w' => ∃ g, e = .returned (.pointer (some ⟨g, 0, none⟩)) ∧ w.heap.size ≤ g ∧ w'.heap[g]? = some (.cells #[.slice none 0 0, .slice none 0 0, .int .u16 5, .int .u32 9600, .int .u8 0, .int .u8 0, .int .u8 8, .int .u8 0, .int .u8 0, .int .u8 0, .int .i64 0, .int .i64 0, .pointer none, .pointer none, .pointer none] 67 (0, 0)) ∧ Below w.heap.size w w' := by
 go_enter Try.func15, Try.ntmps15
 go_wp2_with fail
 go_ret
 exact ⟨_, rfl, Nat.le_refl _, heap_alloc_new w _, (Below.refl w.heap.size w).alloc (Nat.le_refl _) _⟩
set_option maxHeartbeats 1000000 in
theorem newset_ret (w : World) : Calls Try.prog 16 #[] w fun e w' => ∃ g, e = .returned (.pointer (some ⟨g, 0, none⟩)) ∧ w.heap.size ≤ g ∧ w'.heap[g]? = some (.cells #[.bool true, .int .u8 0, .map none, .nilIface, .int .u8 0, .pointer none] 98 (0, 0)) ∧ Below w.heap.size w w' := by
 go_enter Try.func16, Try.ntmps16
 go_wp2_with fail
 go_ret
 exact ⟨_, rfl, Nat.le_refl _, heap_alloc_new w _, (Below.refl w.heap.size w).alloc (Nat.le_refl _) _⟩
set_option maxHeartbeats 1000000 in
theorem setnone_ret (s : Nat) (w : World) (h : w.cell? ⟨s, 0, none⟩ = some (.bool true)) : Calls Try.prog 31 #[.pointer (some ⟨s, 0, none⟩)] w fun e w' => e = .returned (.bool false) ∧ w' = w := by
 go_enter Try.func31, Try.ntmps31
 go_wp2_with fail
 go_ret
 exact ⟨rfl, rfl⟩
set_option maxHeartbeats 2000000 in
theorem stop_ret (P : Nat) (cs : Array Value) (w : World) (hP : w.heap[P]? = some (.cells cs 67 (0, 0))) (hs : cs.size = 15) : Calls Try.prog 33 #[.pointer (some ⟨P, 0, none⟩)] w fun e w' => e = .returned (.tuple #[]) ∧ Wrote P w w' ∧ w'.heap[P]? = some (.cells (((cs.setIfInBounds 12 (.pointer none)).setIfInBounds 13 (.pointer none)).setIfInBounds 14 (.pointer none)) 67 (0, 0)) := by
 have hg : ∀ (w : World) (i : Nat) (cs : Array Value), w.heap[P]? = some (.cells cs 67 (0, 0)) → cs.size = 15 → i < 15 → ∃ v, w.cell? ⟨P, i, none⟩ = some v := fun w i cs h hs hi => ⟨_, (cell_of h i).trans (Array.getElem?_eq_getElem (by omega))⟩
 obtain ⟨v12, x12⟩ := hg w 12 cs hP hs (by omega)
 have f12 := frozen_of hP 12
 have h1 := ((Put1.refl hP).set 12 (.pointer none)).heap
 obtain ⟨v13, x13⟩ := hg _ 13 _ h1 (by simpa using hs) (by omega)
 have f13 := frozen_of h1 13
 have h2 := (((Put1.refl hP).set 12 (.pointer none)).set 13 (.pointer none)).heap
 obtain ⟨v14, x14⟩ := hg _ 14 _ h2 (by simpa using hs) (by omega)
 have f14 := frozen_of h2 14
 have HP := Lib.hid hP
 clear hP h1 h2 hg
 go_enter Try.func33, Try.ntmps33
 go_wp2_with fail
 go_end0
 exact ⟨rfl, ((((Put1.refl HP.out).set 12 (.pointer none)).set 13 (.pointer none)).set 14 (.pointer none)).wrote, ((((Put1.refl HP.out).set 12 (.pointer none)).set 13 (.pointer none)).set 14 (.pointer none)).heap⟩
end Go.Proofs.Ythifcblajimppaa
