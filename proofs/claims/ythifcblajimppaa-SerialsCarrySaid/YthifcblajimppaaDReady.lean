/-
  What is proved here: what the law's made leaves.
  Conditions: the packets' greatest length is 1 to 1024.
  What is proved here: the port's request that sets the lines, and the law's ready.
  Conditions: what the port's cells hold.
-/
import Derived.Test.YthifcblajimppaaDStart
namespace Go.Proofs.Ythifcblajimppaa
open Go.Proofs Go.RowKit
attribute [local go_sem] lt2 lt3 lt4 lt5
structure Made (base d P s I O N m mx : Nat) (w : World) : Prop where
 desk : w.heap[d]? = some (.cells (dkC P s false false false mx false) 32 (0, 0))
 port : w.heap[P]? = some (.cells (ptC I O none 0 0 none 0 0 0 0 (.pointer (some ⟨N, 0, none⟩))) 67 (0, 0))
 set : w.heap[s]? = some (.cells (setC (some m) 0 none) 98 (0, 0))
 eps : E3 I O N mx w
 map : w.heap[m]? = some (.map (ents I O N 3) 3)
 lo : base ≤ d ∧ base ≤ P ∧ base ≤ s ∧ base ≤ I ∧ base ≤ O ∧ base ≤ m
 ne : d ≠ P ∧ d ≠ s ∧ d ≠ I ∧ d ≠ O ∧ d ≠ m ∧ P ≠ s ∧ P ≠ I ∧ P ≠ O ∧ P ≠ m ∧ s ≠ I ∧ s ≠ O ∧ I ≠ O ∧ m ≠ s ∧ m ≠ I ∧ m ≠ O
def MadeEnd (mx : Nat) (w : World) (e : Ending) (w' : World) : Prop :=
 ∃ d P s I O N m, e = .returned (.tuple #[.pointer (some ⟨d, 0, none⟩), .bool true]) ∧ Made w.heap.size d P s I O N m mx w' ∧ Below w.heap.size w w'
theorem lt_of_heap {w : World} {g : Nat} {o : Obj} (h : w.heap[g]? = some o) : g < w.heap.size := (Array.getElem?_eq_some_iff.1 h).1
set_option maxHeartbeats 8000000 in
set_option maxRecDepth 100000 in
theorem made_ret (mx : Nat) (w : World) (hm : 1 ≤ mx ∧ mx ≤ 1024) : Calls Try.prog 5 #[.int .i64 mx] w (MadeEnd mx w) := by
 go_enter Try.func5, Try.ntmps5
 go_wp2_with fail
 refine (new_ret 1 true 2 mx w hm (.inl ⟨rfl, rfl, rfl⟩)).mono ?_
 rintro e w1 ⟨I, rfl, hI, hI1, hb1⟩
 have lI := lt_of_heap hI1
 go_wp2_with fail
 refine (new_ret 2 false 2 mx w1 hm (.inr (.inl ⟨rfl, rfl, rfl⟩))).mono ?_
 rintro e w2 ⟨O, rfl, hO, hO2, hb2⟩
 have lO := lt_of_heap hO2
 go_wp2_with fail
 refine (new_ret 3 true 3 16 w2 (by omega) (.inr (.inr ⟨rfl, rfl, rfl⟩))).mono ?_
 rintro e w3 ⟨N, rfl, hN, hN3, hb3⟩
 have lN := lt_of_heap hN3
 have hE3 : E3 I O N mx w3 := ⟨heap_below (heap_below hI1 hb2) hb3, heap_below hO2 hb3, hN3⟩
 have s1 := hb1.size
 have s2 := hb2.size
 have s3 := hb3.size
 have HB3 := Lib.hid ((hb1.trans (hb2.mono s1)).trans (hb3.mono (by omega)))
 have HE3 := Lib.hid hE3
 clear hI1 hO2 hN3 hb1 hb2 hb3 hE3
 go_wp2_with fail
 refine (sernew_ret w3).mono ?_
 rintro e w4 ⟨P, rfl, hP, hP4, hb4⟩
 have lP := lt_of_heap hP4
 go_wp2_with fail
 refine (newset_ret w4).mono ?_
 rintro e w5 ⟨s, rfl, hs, hs5, hb5⟩
 have lS := lt_of_heap hs5
 have s4 := hb4.size
 have s5 := hb5.size
 have hP5 := heap_below hP4 hb5
 have hE5 := (HE3.out.below hb4).below hb5
 have HB5 := Lib.hid ((HB3.out.trans (hb4.mono (by omega))).trans (hb5.mono (by omega)))
 clear hP4 hb4 hb5
 obtain ⟨w6, hw6⟩ : ∃ w6, w5.alloc (.cells (dkC P s false false false mx false) 32) = w6 := ⟨_, rfl⟩
 have hb6 : Below w5.heap.size w5 w6 := by rw [← hw6]; exact (Below.refl _ _).alloc (Nat.le_refl _) _
 have hd6 : w6.heap[w5.heap.size]? = some (.cells (dkC P s false false false mx false) 32 (0, 0)) := by rw [← hw6]; exact heap_alloc_new w5 _
 obtain ⟨w7, hw7⟩ : ∃ w7, w6.alloc (.cells #[.pointer (some ⟨I, 0, none⟩), .pointer (some ⟨O, 0, none⟩), .pointer (some ⟨N, 0, none⟩)] 50) = w7 := ⟨_, rfl⟩
 have hb7 : Below w6.heap.size w6 w7 := by rw [← hw7]; exact (Below.refl _ _).alloc (Nat.le_refl _) _
 have hv7 : w7.heap[w6.heap.size]? = some (.cells #[.pointer (some ⟨I, 0, none⟩), .pointer (some ⟨O, 0, none⟩), .pointer (some ⟨N, 0, none⟩)] 50 (0, 0)) := by rw [← hw7]; exact heap_alloc_new w6 _
 have s6 := hb6.size
 have s7 := hb7.size
 have ld := lt_of_heap hd6
 have lv := lt_of_heap hv7
 have hb57 := hb6.trans (hb7.mono s6)
 have hE7 := hE5.below hb57
 have hP7 := heap_below hP5 hb57
 have hs7 := heap_below hs5 hb57
 have hd7 := heap_below hd6 hb7
 have HB7 := Lib.hid (HB5.out.trans (hb57.mono (by omega)))
 have HD6 := Lib.hid hd6
 have HE7 := Lib.hid hE7
 have HP7 := Lib.hid hP7
 have HS7 := Lib.hid hs7
 have HD7 := Lib.hid hd7
 have HV7 := Lib.hid hv7
 have y0 : w6.cell? ⟨w5.heap.size, 0, none⟩ = some (.pointer (some ⟨P, 0, none⟩)) := cell_of hd6 0
 have y1 : w6.cell? ⟨w5.heap.size, 1, none⟩ = some (.pointer (some ⟨s, 0, none⟩)) := cell_of hd6 1
 clear hP5 hE5 hb6 hb7 hs5 hb57 hE7 hP7 hs7 hd7 hd6 hv7
 unfold dkC at hw6
 go_wp2_with fail
 refine (use_ret s I O N w6.heap.size mx w7 hm.1 HE7.out HV7.out HS7.out).mono ?_
 rintro e w8 ⟨m, rfl, hmm, hm8, hs8, hv8⟩
 have s8 := hv8.size
 have lm := lt_of_heap hm8
 obtain ⟨w9, hw9⟩ : ∃ w9, w8.alloc (.cells #[.pointer (some ⟨I, 0, none⟩), .pointer (some ⟨O, 0, none⟩), .pointer (some ⟨N, 0, none⟩)] 50) = w9 := ⟨_, rfl⟩
 have hb9 : Below w8.heap.size w8 w9 := by rw [← hw9]; exact (Below.refl _ _).alloc (Nat.le_refl _) _
 have hv9 : w9.heap[w8.heap.size]? = some (.cells #[.pointer (some ⟨I, 0, none⟩), .pointer (some ⟨O, 0, none⟩), .pointer (some ⟨N, 0, none⟩)] 50 (0, 0)) := by rw [← hw9]; exact heap_alloc_new w8 _
 have s9 := hb9.size
 have k8 : ∀ {g : Nat} {o : Obj}, w7.heap[g]? = some o → g ≠ s → w9.heap[g]? = some o := fun h hne => heap_below (hv8.heap h hne) hb9
 have hE9 : E3 I O N mx w9 := ⟨k8 HE7.out.1 (by omega), k8 HE7.out.2.1 (by omega), k8 HE7.out.2.2 (by omega)⟩
 have hP9 := k8 HP7.out (by omega)
 have hd9 := k8 HD7.out (by omega)
 have hs9 := heap_below hs8 hb9
 have hm9 := heap_below hm8 hb9
 have HK := Lib.hid (hv8.below hb9)
 have HE9 := Lib.hid hE9
 have HS9 := Lib.hid hs9
 have HM9 := Lib.hid hm9
 have HD9 := Lib.hid hd9
 have z0 : w8.cell? ⟨w5.heap.size, 0, none⟩ = some (.pointer (some ⟨P, 0, none⟩)) := cell_of (hv8.heap HD7.out (by omega)) 0
 have hst := start_ret P I O N w8.heap.size mx w9 hm.1 hE9 hv9 hP9 (by omega)
 clear y0 y1 hs8 hm8 hv8 hb9 hv9 k8 hE9 hP9 hd9 hs9 hm9 hw6 hw7
 go_wp2_with fail
 refine hst.mono ?_
 rintro e w10 ⟨rfl, hP10, hv10⟩
 clear hst hw9 z0
 go_wp2_with fail
 go_ret2
 have hb7 := HB7.out
 have s10 := hv10.size
 refine ⟨w5.heap.size, P, s, I, O, N, m, rfl, ⟨hv10.heap HD9.out (by omega), hP10, hv10.heap HS9.out (by omega), ⟨hv10.heap HE9.out.1 (by omega), hv10.heap HE9.out.2.1 (by omega), hv10.heap HE9.out.2.2 (by omega)⟩, hv10.heap HM9.out (by omega), by omega, by omega⟩, (hb7.trans (HK.out.to_below (by omega) (fun i e => by omega))).trans (hv10.to_below (by omega) (fun i e => by omega))⟩
end Go.Proofs.Ythifcblajimppaa

namespace Go.Proofs.Ythifcblajimppaa
open Go.Proofs Go.RowKit
attribute [local go_sem] lt2 lt3 lt4 lt5
def rqC (v : Int) : Array Value := #[.int .u8 33, .int .u8 34, .int .u16 v, .int .u16 5, .int .u16 0]
def lnC (cs : Array Value) (on : Bool) : Array Value := if on then cs.setIfInBounds 7 (.int .u8 1) else ((cs.setIfInBounds 7 (.int .u8 0)).setIfInBounds 0 (.slice none 0 0)).setIfInBounds 1 (.slice none 0 0)
def LnEnd (P : Nat) (cs : Array Value) (on : Bool) (w : World) (e : Ending) (w' : World) : Prop :=
 e = .returned (.tuple #[.slice none 0 0, .bool true]) ∧ w'.heap[P]? = some (.cells (lnC cs on) 67 (0, 0)) ∧ Mv (fun i => i = P) w (fun i => i = P) w'
theorem bit0 : bits BinOp.and IntKind.u8 0 1 = 0 := by kernel_rfl
set_option maxHeartbeats 4000000 in
set_option maxRecDepth 100000 in
theorem lines_ret (P : Nat) (cs : Array Value) (on : Bool) (w : World) (hP : w.heap[P]? = some (.cells cs 67 (0, 0))) (hs : cs.size = 15) : Calls Try.prog 36 #[.pointer (some ⟨P, 0, none⟩), .agg (rqC (if on then 1 else 0)), .slice none 0 0] w (LnEnd P cs on w) := by
 have hg : ∀ (w : World) (i : Nat) (cs : Array Value), w.heap[P]? = some (.cells cs 67 (0, 0)) → cs.size = 15 → i < 15 → ∃ v, w.cell? ⟨P, i, none⟩ = some v := fun w i cs h hs hi => ⟨_, (cell_of h i).trans (Array.getElem?_eq_getElem (by omega))⟩
 have hpl := lt_of_heap hP
 obtain ⟨wb, hwb⟩ : ∃ wb, w.alloc (.cells (rqC (if on then 1 else 0)) 62) = wb := ⟨_, rfl⟩
 have hbb : Below w.heap.size w wb := by rw [← hwb]; exact (Below.refl _ _).alloc (Nat.le_refl _) _
 have hbx : wb.heap[w.heap.size]? = some (.cells (rqC (if on then 1 else 0)) 62 (0, 0)) := by rw [← hwb]; exact heap_alloc_new w _
 have hP0 := heap_below hP hbb
 obtain ⟨v7, x7⟩ := hg wb 7 cs hP0 hs (by omega)
 have f7 := frozen_of hP0 7
 have HBB := Lib.hid hbb
 have HP0 := Lib.hid hP0
 cases on with
 | true =>
  have z2 : wb.cell? ⟨w.heap.size, 2, none⟩ = some (.int .u16 1) := cell_of hbx 2
  have z4 : wb.cell? ⟨w.heap.size, 4, none⟩ = some (.int .u16 0) := cell_of hbx 4
  have h1 := ((Put1.refl hP0).set 7 (.int .u8 1)).heap
  have y7 : (wb.setCell ⟨P, 7, none⟩ (.int .u8 1)).cell? ⟨P, 7, none⟩ = some (.int .u8 1) := (cell_of h1 7).trans (Array.getElem?_setIfInBounds_self_of_lt (by omega))
  clear hP0 h1 hbb hbx hg hP
  simp only [rqC, if_true] at hwb ⊢
  go_enter Try.func36, Try.ntmps36
  go_wp2_with fail
  go_ret2
  have hW := ((Put1.refl HP0.out).set 7 (.int .u8 1)).wrote
  exact ⟨rfl, ((Put1.refl HP0.out).set 7 (.int .u8 1)).heap, ((Mv.refl (fun i => i = P) w).below HBB.out).trans ⟨hW.os, hW.tape, hW.output, Nat.le_of_eq hW.size.symm, fun i _ hs => hW.other i hs, fun _ _ h => h⟩⟩
 | false =>
  have z2 : wb.cell? ⟨w.heap.size, 2, none⟩ = some (.int .u16 0) := cell_of hbx 2
  have z4 : wb.cell? ⟨w.heap.size, 4, none⟩ = some (.int .u16 0) := cell_of hbx 4
  have h1 := ((Put1.refl hP0).set 7 (.int .u8 0)).heap
  have y7 : (wb.setCell ⟨P, 7, none⟩ (.int .u8 0)).cell? ⟨P, 7, none⟩ = some (.int .u8 0) := (cell_of h1 7).trans (Array.getElem?_setIfInBounds_self_of_lt (by omega))
  obtain ⟨v0, y0⟩ := hg _ 0 _ h1 (by simpa using hs) (by omega)
  have g0 := frozen_of h1 0
  have h2 := (((Put1.refl hP0).set 7 (.int .u8 0)).set 0 (.slice none 0 0)).heap
  obtain ⟨v1, y1⟩ := hg _ 1 _ h2 (by simpa using hs) (by omega)
  have g1 := frozen_of h2 1
  clear hP0 h1 h2 hbb hbx hg hP
  simp only [rqC] at hwb ⊢
  rw [if_neg (by decide)] at hwb ⊢
  go_enter Try.func36, Try.ntmps36
  go_wp2_with fail
  go_ret2
  have hW := ((((Put1.refl HP0.out).set 7 (.int .u8 0)).set 0 (.slice none 0 0)).set 1 (.slice none 0 0)).wrote
  exact ⟨rfl, ((((Put1.refl HP0.out).set 7 (.int .u8 0)).set 0 (.slice none 0 0)).set 1 (.slice none 0 0)).heap, ((Mv.refl (fun i => i = P) w).below HBB.out).trans ⟨hW.os, hW.tape, hW.output, Nat.le_of_eq hW.size.symm, fun i _ hs => hW.other i hs, fun _ _ h => h⟩⟩
def rkV (a b : Int) : Value := .agg #[.int .u8 a, .int .u8 b]
def rfV (f : FuncId) (P : Nat) : Value := .func (.func f) #[.pointer (some ⟨P, 0, none⟩)] #[]
theorem rk1 : ∃ l, keyOf Try.prog 101 (rkV 33 32) = some l := Option.isSome_iff_exists.1 (by kernel_rfl)
theorem rk2 : ∃ l, keyOf Try.prog 101 (rkV 161 33) = some l := Option.isSome_iff_exists.1 (by kernel_rfl)
theorem rk3 : ∃ l, keyOf Try.prog 101 (rkV 33 34) = some l := Option.isSome_iff_exists.1 (by kernel_rfl)
theorem rk4 : ∃ l, keyOf Try.prog 101 (rkV 33 35) = some l := Option.isSome_iff_exists.1 (by kernel_rfl)
theorem rk_ne {a b c d : Int} (h : a ≠ c ∨ b ≠ d) : rkV a b ≠ rkV c d := by
 intro e
 simp only [rkV, Value.agg.injEq, Array.mk.injEq, List.cons.injEq, Value.int.injEq] at e
 rcases h with h | h
 ·exact h e.1.2
 ·exact h e.2.1.2
end Go.Proofs.Ythifcblajimppaa
