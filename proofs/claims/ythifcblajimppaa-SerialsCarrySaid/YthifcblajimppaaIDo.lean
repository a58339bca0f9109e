/-
  What is proved here: what transactions.Do does and returns, for In and Out, with a device that listens.
  Conditions: the transaction is such as Check accepts; the device's and the wire's contracts.
-/
import Derived.Test.YthifcblajimppaaIOut
namespace Go.Proofs.Ythifcblajimppaa
open Go.Proofs Go.RowKit
attribute [local go_sem] lt2 lt3 lt4 lt5
theorem own_slice {w : World} {B size n : Nat} {e : TypeId} {v : Value} {xs : List Value} (h : w.ownsRow B e size v n xs) : ∃ A m c, v = .slice A m c ∧ m ≤ c := by
 rcases h.2 with ⟨rfl, _⟩ | ⟨g, cap, cur, rfl, hg, _, hc, _⟩
 ·exact ⟨none, 0, 0, rfl, Nat.le_refl _⟩
 ·exact ⟨_, n, cap, rfl, hc⟩
theorem Wrote.drew {g : Nat} {w w' : World} (h : Wrote g w w') : Wrote g w w'.drew := ⟨h.os, h.tape, h.output, h.size, h.other⟩
def DoEnd (M : Bus) (r : (Int × List Int) × M.σ) (w : World) (S : Nat → Prop) (e : Ending) (w' : World) : Prop :=
 ∃ S' A' n' c' sA sn sc, e = .returned (.tuple #[.agg #[.int .u8 r.1.1, .slice A' n' c'], .slice sA sn sc]) ∧ M.I w' S' r.2 ∧ Mv S w S' w' ∧ D8 w' S' A' n' c' r.1.2 ∧ (n' = 0 ∨ ∃ a, A' = some a ∧ w.heap.size ≤ a.block)
def TckOk (T : Value) : Prop := ∀ w : World, Calls Try.prog 41 #[T] w fun e w' => e = .returned (.int .i64 0) ∧ Below w.heap.size w w'
set_option maxHeartbeats 4000000 in
set_option maxRecDepth 1000000 in
theorem do_ret (M : Bus) (what : Int) (ad en : Int) (tg iso : Bool) (mx : Int) (A : Option Addr) (n c : Nat) (w : World) (S : Nat → Prop) (s : M.σ) (r : (Int × List Int) × M.σ)
  (hI : M.I w S s) (hck : TckOk (.agg #[.int .u8 ad, .int .u8 en, .int .u8 what, .bool tg, .bool iso, .int .i64 mx, .slice A n c])) (hw : what = 9 ∨ what = 1)
  (hin : what = 9 → ∀ (w : World) S dB wB sB B1 B us, DoIn M true w S dB wB sB B1 B 0 (.slice none 0 0) us → M.I w S s → Calls Try.prog 44 #[.func (.func 42) #[] #[.pointer (some ⟨dB, 0, none⟩), .pointer (some ⟨wB, 0, none⟩), .pointer (some ⟨sB, 0, none⟩)],
   .agg #[.int .u8 ad, .int .u8 en, .int .u8 9, .bool tg, .bool iso, .int .i64 mx, .slice A n c]] w (TrEnd M r dB sB B w S))
  (hout : what = 1 → ∀ (w2 : World) dB wB sB B us, Mv S w S w2 → DoIn M true w2 S dB wB sB w.heap.size B 0 (.slice none 0 0) us → M.I w2 S s → Calls Try.prog 45 #[.func (.func 42) #[] #[.pointer (some ⟨dB, 0, none⟩), .pointer (some ⟨wB, 0, none⟩), .pointer (some ⟨sB, 0, none⟩)],
   .agg #[.int .u8 ad, .int .u8 en, .int .u8 1, .bool tg, .bool iso, .int .i64 mx, .slice A n c]] w2 (TrEnd M r dB sB B w2 S)) :
  Calls Try.prog 27 #[.iface 29 (.pointer (some M.ga)), M.wv, .agg #[.int .u8 ad, .int .u8 en, .int .u8 what, .bool tg, .bool iso, .int .i64 mx, .slice A n c]] w (DoEnd M r w S) := by
 have hwc := M.one
 unfold Value.cells at hwc
 go_enter Try.func27, Try.ntmps27
 go_upto_region 1 with fail
 try rw [hwc]
 obtain ⟨wA, hwA⟩ : ∃ wA, ((((w.alloc (.cells #[.iface 29 (.pointer (some M.ga))] 106)).alloc (.cells #[M.wv] 108)).alloc (.cells #[.int .u8 ad, .int .u8 en, .int .u8 what, .bool tg, .bool iso, .int .i64 mx, .slice A n c] 83)).alloc (.cells #[.int .u8 0, .slice none 0 0] 77)) = wA := ⟨_, rfl⟩
 have hbA : Below w.heap.size w wA := by rw [← hwA]; exact ((((Below.refl _ _).alloc (Nat.le_refl _) _).alloc (by simp) _).alloc (by simp; omega) _).alloc (by simp; omega) _
 have hX0 : wA.heap[w.heap.size]? = some (.cells #[.iface 29 (.pointer (some M.ga))] 106 (0, 0)) := by rw [← hwA]; exact heap_below (alloc3_0 _ _ _ _) ((Below.refl _ _).alloc (Nat.le_refl _) _)
 have hX1 : wA.heap[w.heap.size + 1]? = some (.cells #[M.wv] 108 (0, 0)) := by rw [← hwA]; exact heap_below (alloc3_1 _ _ _ _) ((Below.refl _ _).alloc (Nat.le_refl _) _)
 have hX2 : wA.heap[w.heap.size + 1 + 1]? = some (.cells #[.int .u8 ad, .int .u8 en, .int .u8 what, .bool tg, .bool iso, .int .i64 mx, .slice A n c] 83 (0, 0)) := by rw [← hwA]; exact heap_below (alloc3_2 _ _ _ _) ((Below.refl _ _).alloc (Nat.le_refl _) _)
 have hX3 : wA.heap[w.heap.size + 1 + 1 + 1]? = some (.cells #[.int .u8 0, .slice none 0 0] 77 (0, 0)) := by rw [← hwA]; have := heap_alloc_new (((w.alloc (.cells #[.iface 29 (.pointer (some M.ga))] 106)).alloc (.cells #[M.wv] 108)).alloc (.cells #[.int .u8 ad, .int .u8 en, .int .u8 what, .bool tg, .bool iso, .int .i64 mx, .slice A n c] 83)) (.cells #[.int .u8 0, .slice none 0 0] 77); simpa using this
 rw [hwA]
 clear hwA
 go_wp2_with (guard_target =~ wpList _ _ _ (_ :: _) _ _; refine wpList_load_row rfl (.tmp 5) 83 rfl (w.heap.size + 1 + 1) 83 _ _ rfl hX2 Try.underlying83 rfl (by kernel_rfl) ?_)
 refine (hck wA).mono ?_
 rintro e w1 ⟨rfl, hb1⟩
 have hX0 := heap_below hX0 hb1
 have hX1 := heap_below hX1 hb1
 have hX2 := heap_below hX2 hb1
 have hX3 := heap_below hX3 hb1
 have hb1 := hbA.trans (hb1.mono hbA.size)
 have hsz1 : w.heap.size + 1 + 1 + 1 < w1.heap.size := (Array.getElem?_eq_some_iff.1 hX3).1
 go_upto_region 6 with fail
 obtain ⟨w2, hw2⟩ : ∃ w2, (w1.alloc (.cells #[.slice none 0 0] 78)).alloc (.cells #[.int .u8 0, .slice none 0 0] 77) = w2 := ⟨_, rfl⟩
 have hb2 : Below w1.heap.size w1 w2 := by rw [← hw2]; exact ((Below.refl _ _).alloc (Nat.le_refl _) _).alloc (by simp) _
 have hS2 : w2.heap[w1.heap.size]? = some (.cells #[.slice none 0 0] 78 (0, 0)) := by rw [← hw2]; exact alloc2_0 _ _ _
 have hO2 : w2.heap[w1.heap.size + 1]? = some (.cells #[.int .u8 0, .slice none 0 0] 77 (0, 0)) := by rw [← hw2]; exact alloc2_1 _ _ _
 have hsz2 : w2.heap.size = w1.heap.size + 1 + 1 := by rw [← hw2]; simp
 rw [hw2]
 clear hw2
 have hD2 := heap_below hX0 hb2
 have hV2 := heap_below hX1 hb2
 have hT2 := heap_below hX2 hb2
 have hR2 := heap_below hX3 hb2
 have hbb := hb1.trans (hb2.mono hb1.size)
 clear hX0 hX1 hX2 hX3 hb1 hbA
 have hnew : ∀ g, w.heap.size ≤ g → ¬ S g := fun g hg => Bus.new hI hg
 have hI2 := Bus.below hI hbb
 have hm2 := (Mv.refl S w).below hbb
 have hdo : DoIn M true w2 S w.heap.size (w.heap.size + 1) w1.heap.size w.heap.size w2.heap.size 0 (.slice none 0 0) [] :=
  ⟨hD2, hV2, ⟨hS2, World.ownsRow_nil _ _ _ _⟩, hnew _ (Nat.le_refl _), hnew _ (by omega), hnew _ (by omega), M.base hI, Nat.le_refl _, by omega, by omega, ⟨by omega, by omega⟩, by omega, by omega, by omega, Nat.le_refl _, fun i h => by simp [Value.ownBlock] at h⟩
 have c2 := cell_of hT2 2
 rcases hw with rfl | rfl
 ·go_upto_region 7 with fail
  go_wp2_with (guard_target =~ wpList _ _ _ (_ :: _) _ _; refine wpList_load_row rfl (.tmp 5) 83 rfl (w.heap.size + 1 + 1) 83 _ _ rfl hT2 Try.underlying83 rfl (by kernel_rfl) ?_)
  refine (hin trivial w2 S _ _ _ _ _ _ hdo hI2).mono ?_
  rintro e w3 ⟨S3, A3, n3, c3, sv3, k3, us3, rfl, hI3, hx3, hd3, hf3, ⟨hs3, ho3⟩, hso3⟩
  obtain ⟨As, ms, cs, rfl, hcs⟩ := own_slice ho3
  have hO3 := hx3.heap hO2 (hnew _ (by omega)) (fun hi => by omega)
  have hR3 := hx3.heap hR2 (hnew _ (by omega)) (fun hi => by omega)
  have hsO := hx3.out (g := w1.heap.size + 1) (by omega) (hnew _ (by omega))
  have hsR := hx3.out (g := w.heap.size + 1 + 1 + 1) (by omega) (hnew _ (by omega))
  have hm3 := hm2.mx hx3 (fun i hi => by omega)
  go_wp2_with (guard_target =~ wpList _ _ _ (_ :: _) _ _; (refine wpList_store_row rfl (.tmp 10) (.tmp 21) 77 rfl (w1.heap.size + 1) 0 77 _ _ #[.int .u8 r.1.1, .slice A3 n3 c3] rfl rfl hO3 (by kernel_rfl) (by simp) rfl rfl ?_; intro w4 hZ4 hW4))
  have hs4 := (hW4.other w1.heap.size (by omega)).trans hs3
  have hR4 := (hW4.other (w.heap.size + 1 + 1 + 1) (by omega)).trans hR3
  have o0 := cell_of hZ4 0
  have o1 := cell_of hZ4 1
  have s0 := cell_of hs4 0
  have r0 := cell_of hR4 0
  have r1 := cell_of hR4 1
  have f0 := frozen_of hR4 0
  have f1 := frozen_of hR4 1
  have hP := ((Put1.refl hR4).set 0 (.int .u8 r.1.1)).set 1 (.slice A3 n3 c3)
  have hZ5 := hP.heap
  have hW5 := hP.wrote
  clear hP
  have hfin : ∀ w5, Wrote (w.heap.size + 1 + 1 + 1) w4 w5 → DoEnd M r w S (.returned (.tuple #[.agg #[.int .u8 r.1.1, .slice A3 n3 c3], .slice As ms ms])) w5 := fun w5 hW => by
   have hB0 := M.base hI
   exact ⟨S3, A3, n3, c3, As, ms, ms, rfl, Bus.wrote (Bus.wrote hI3 hW4 (by omega) hsO) hW (by omega) hsR, (hm3.wrote hW4 (by omega)).wrote hW (by omega),
    ⟨(hd3.1.wrote hW4 (hf3.imp id fun ⟨a, e, h, _⟩ => ⟨a, e, by omega⟩)).wrote hW (hf3.imp id fun ⟨a, e, h, _⟩ => ⟨a, e, by omega⟩), hd3.2⟩, hf3.imp id fun ⟨a, e, h, _⟩ => ⟨a, e, by omega⟩⟩
  go_upto_region 9 with fail
  go_region_with (go_at_call 46; refine (sclip_sent As ms cs _ hcs).mono ?_; rintro e w2' ⟨rfl, rfl⟩)
  all_goals
   go_wp2_with fail
   refine ret_cell _ _ _ _ _ rfl rfl rfl hZ5 Try.underlying77 rfl (by kernel_rfl) rfl ?_
   exact hfin _ (by first | exact hW5 | exact hW5.drew)
 ·go_upto_region 8 with fail
  go_wp2_with (guard_target =~ wpList _ _ _ (_ :: _) _ _; refine wpList_load_row rfl (.tmp 5) 83 rfl (w.heap.size + 1 + 1) 83 _ _ rfl hT2 Try.underlying83 rfl (by kernel_rfl) ?_)
  refine (hout trivial w2 _ _ _ _ _ hm2 hdo hI2).mono ?_
  rintro e w3 ⟨S3, A3, n3, c3, sv3, k3, us3, rfl, hI3, hx3, hd3, hf3, ⟨hs3, ho3⟩, hso3⟩
  obtain ⟨As, ms, cs, rfl, hcs⟩ := own_slice ho3
  have hO3 := hx3.heap hO2 (hnew _ (by omega)) (fun hi => by omega)
  have hR3 := hx3.heap hR2 (hnew _ (by omega)) (fun hi => by omega)
  have hsO := hx3.out (g := w1.heap.size + 1) (by omega) (hnew _ (by omega))
  have hsR := hx3.out (g := w.heap.size + 1 + 1 + 1) (by omega) (hnew _ (by omega))
  have hm3 := hm2.mx hx3 (fun i hi => by omega)
  go_wp2_with (guard_target =~ wpList _ _ _ (_ :: _) _ _; (refine wpList_store_row rfl (.tmp 10) (.tmp 24) 77 rfl (w1.heap.size + 1) 0 77 _ _ #[.int .u8 r.1.1, .slice A3 n3 c3] rfl rfl hO3 (by kernel_rfl) (by simp) rfl rfl ?_; intro w4 hZ4 hW4))
  have hs4 := (hW4.other w1.heap.size (by omega)).trans hs3
  have hR4 := (hW4.other (w.heap.size + 1 + 1 + 1) (by omega)).trans hR3
  have o0 := cell_of hZ4 0
  have o1 := cell_of hZ4 1
  have s0 := cell_of hs4 0
  have r0 := cell_of hR4 0
  have r1 := cell_of hR4 1
  have f0 := frozen_of hR4 0
  have f1 := frozen_of hR4 1
  have hP := ((Put1.refl hR4).set 0 (.int .u8 r.1.1)).set 1 (.slice A3 n3 c3)
  have hZ5 := hP.heap
  have hW5 := hP.wrote
  clear hP
  have hfin : ∀ w5, Wrote (w.heap.size + 1 + 1 + 1) w4 w5 → DoEnd M r w S (.returned (.tuple #[.agg #[.int .u8 r.1.1, .slice A3 n3 c3], .slice As ms ms])) w5 := fun w5 hW => by
   have hB0 := M.base hI
   exact ⟨S3, A3, n3, c3, As, ms, ms, rfl, Bus.wrote (Bus.wrote hI3 hW4 (by omega) hsO) hW (by omega) hsR, (hm3.wrote hW4 (by omega)).wrote hW (by omega),
    ⟨(hd3.1.wrote hW4 (hf3.imp id fun ⟨a, e, h, _⟩ => ⟨a, e, by omega⟩)).wrote hW (hf3.imp id fun ⟨a, e, h, _⟩ => ⟨a, e, by omega⟩), hd3.2⟩, hf3.imp id fun ⟨a, e, h, _⟩ => ⟨a, e, by omega⟩⟩
  go_upto_region 9 with fail
  go_region_with (go_at_call 46; refine (sclip_sent As ms cs _ hcs).mono ?_; rintro e w2' ⟨rfl, rfl⟩)
  all_goals
   go_wp2_with fail
   refine ret_cell _ _ _ _ _ rfl rfl rfl hZ5 Try.underlying77 rfl (by kernel_rfl) rfl ?_
   exact hfin _ (by first | exact hW5 | exact hW5.drew)
end Go.Proofs.Ythifcblajimppaa
