/-
  What is proved here: what pipes.End returns for isochronous works.
  Conditions: what the pieces' cells hold.
-/
import Derived.Test.YtiajboiobjfcoaaGreatDoorIEnd
namespace Go.Proofs.YtiajboiobjfcoaaGreatDoor
open Go.Proofs Go.RowKit
attribute [local go_sem] lt2 lt3 lt4 lt5
theorem ret_cells2 {P : Program} {fn : Func} {p q u : Tmp} {ty ty' : TypeId} {R : Ending → World → Prop} {a : Act} {w : World} (g g' : Nat) (t t' : TypeId) (cs cs' : Array Value) (d d' : TypeDesc) (v : Value) (hres : fn.results = #[.cell p ty, .cell q ty', .tmp u])
  (hp : a.tmps.getD p undef = .pointer (some ⟨g, 0, none⟩)) (hq : a.tmps.getD q undef = .pointer (some ⟨g', 0, none⟩)) (hu : a.tmps.getD u undef = v)
  (hg : w.heap[g]? = some (.cells cs t (0, 0))) (hty : P.underlying ty = some d) (hd : (match d with | .struct _ | .array _ _ => true | _ => false) = true) (hi : (P.info? ty).map (·.size) = some cs.size)
  (hg' : w.heap[g']? = some (.cells cs' t' (0, 0))) (hty' : P.underlying ty' = some d') (hd' : (match d' with | .struct _ | .array _ _ => true | _ => false) = true) (hi' : (P.info? ty').map (·.size) = some cs'.size) (hde : a.defers = [])
  (hR : R (.returned (.tuple #[.agg cs, .agg cs', v])) w) : bodyPost P fn R .ret a w := by
 refine bodyPost_ret_by ?_ hde hR
 have h1 := run_loadVar_row (P := P) w g t ty cs (0, 0) d hg hty hd hi
 have h2 := run_loadVar_row (P := P) w g' t' ty' cs' (0, 0) d' hg' hty' hd' hi'
 have hr : (results fn a.tmps).run P w = ((asAddr (a.tmps.getD p undef)).run P w).andThen fun a₁ w₁ => ((loadVar ty a₁).run P w₁).andThen fun v w₂ => ((asAddr (a.tmps.getD q undef)).run P w₂).andThen fun a₂ w₃ => ((loadVar ty' a₂).run P w₃).andThen fun v' w₄ => .ok (.tuple #[v, v', a.tmps.getD u undef]) w₄ := by
  simp only [results, hres]
  simp [Sem.run_bind, Result.andThen]
 rw [hr, hp, hq, hu]
 simp [asAddr, h1, h2]
theorem put4 {w : World} {g : Nat} {t : TypeId} {z0 z1 z2 z3 : Value} (h : w.heap[g]? = some (.cells #[z0, z1, z2, z3] t (0, 0))) (v0 v1 v2 v3 : Value) :
  ((((w.setCell ⟨g, 0, none⟩ v0).setCell ⟨g, 1, none⟩ v1).setCell ⟨g, 2, none⟩ v2).setCell ⟨g, 3, none⟩ v3).heap[g]? = some (.cells #[v0, v1, v2, v3] t (0, 0)) ∧ Wrote g w ((((w.setCell ⟨g, 0, none⟩ v0).setCell ⟨g, 1, none⟩ v1).setCell ⟨g, 2, none⟩ v2).setCell ⟨g, 3, none⟩ v3) := by
 have hP := (((((Put1.refl h).set 0 v0).set 1 v1).set 2 v2).set 3 v3)
 exact ⟨by simpa using hP.heap, hP.wrote⟩
theorem put11 {w : World} {g : Nat} {t : TypeId} {z0 z1 z2 z3 z4 z5 z6 z7 z8 z9 z10 : Value} (h : w.heap[g]? = some (.cells #[z0, z1, z2, z3, z4, z5, z6, z7, z8, z9, z10] t (0, 0))) (v0 v1 v2 v3 v4 v5 v6 v7 v8 v9 v10 : Value) :
  (((((((((((w.setCell ⟨g, 0, none⟩ v0).setCell ⟨g, 1, none⟩ v1).setCell ⟨g, 2, none⟩ v2).setCell ⟨g, 3, none⟩ v3).setCell ⟨g, 4, none⟩ v4).setCell ⟨g, 5, none⟩ v5).setCell ⟨g, 6, none⟩ v6).setCell ⟨g, 7, none⟩ v7).setCell ⟨g, 8, none⟩ v8).setCell ⟨g, 9, none⟩ v9).setCell ⟨g, 10, none⟩ v10).heap[g]? = some (.cells #[v0, v1, v2, v3, v4, v5, v6, v7, v8, v9, v10] t (0, 0)) ∧ Wrote g w (((((((((((w.setCell ⟨g, 0, none⟩ v0).setCell ⟨g, 1, none⟩ v1).setCell ⟨g, 2, none⟩ v2).setCell ⟨g, 3, none⟩ v3).setCell ⟨g, 4, none⟩ v4).setCell ⟨g, 5, none⟩ v5).setCell ⟨g, 6, none⟩ v6).setCell ⟨g, 7, none⟩ v7).setCell ⟨g, 8, none⟩ v8).setCell ⟨g, 9, none⟩ v9).setCell ⟨g, 10, none⟩ v10) := by
 have hP := ((((((((((((Put1.refl h).set 0 v0).set 1 v1).set 2 v2).set 3 v3).set 4 v4).set 5 v5).set 6 v6).set 7 v7).set 8 v8).set 9 v9).set 10 v10)
 exact ⟨by simpa using hP.heap, hP.wrote⟩
set_option maxHeartbeats 8000000 in
set_option maxRecDepth 1000000 in
theorem pipe_end (inn : Bool) (m0 out : Int) (many xc pn pc im ic : Nat) (PA IA : Option Addr) (gX : Nat) (us : List Value) (e : Nat → Int) (d : Nat → List Int) (w : World) (h1 : 1 ≤ many) (h2 : many ≤ 256) (hX : Pcs w (some ⟨gX, 0, none⟩) many xc us) (hD : PcsD w us many e d) (hdl : ∀ i, (d i).length ≤ 1024)
  (hs : 0 ≤ (im : Int) + out ∧ (im : Int) + out ≤ 1000000) :
  Calls Tryz.prog 17 #[.agg #[.bool true, .int .u8 5, .int .u8 2, .bool inn, .int .u8 1, .int .i64 8, .int .i64 8, .int .u8 1, .int .u8 0, .int .u8 1, .bool false, .bool false, .int .u8 0, .int .u8 0, .int .u8 0, .int .u16 0, .int .u16 0, .int .u16 0, .slice none 0 0, .int .i64 0, .bool false, .int .i64 0, .slice none 0 0, .int .i64 0, .int .i64 0, .bool false, .int .u8 0, .int .i64 0, .bool false, .slice none 0 0, .bool false, .int .i64 0, .slice none 0 0, .slice none 0 0, .int .i64 0, .int .i64 0, .bool false, .int .i64 0, .bool inn, .int .u8 2, .int .i64 8, .slice PA pn pc, .int .i64 m0, .int .i64 (many : Int), .slice (some ⟨gX, 0, none⟩) many xc, .slice IA im ic, .int .i64 out]] w fun e' w' => Below w.heap.size w w' ∧
   ∃ g us', e' = .returned (.tuple #[.agg #[.int .i64 0, .slice none 0 0, .int .i64 ((im : Int) + out), .slice (some ⟨g, 0, none⟩) many many], .agg #[.int .u8 5, .int .u8 2, .bool inn, .int .u8 1, .int .i64 8, .int .i64 8, .int .u8 1, .int .u8 0, .int .u8 1, .bool false, .bool false], .bool true]) ∧ Pcs w' (some ⟨g, 0, none⟩) many many us' ∧ PcsD w' us' many e d ∧ w.heap.size ≤ g := by
 have hb3 : ∀ a b c, Below w.heap.size w (((w.alloc a).alloc b).alloc c) := fun a b c => (((Below.refl w.heap.size w).alloc (Nat.le_refl _) a).alloc (by simp) b).alloc (by simp; omega) c
 have hwr : IntKind.i64.wrap ((im : Int) + out) = (im : Int) + out := IntWalk.i64_in _ (by omega)
 go_enter Tryz.func17, Tryz.ntmps17
 go_upto_region 1 with fail
 obtain ⟨w0, hw0⟩ : ∃ w0, ((w.alloc (.cells #[.bool true, .int .u8 5, .int .u8 2, .bool inn, .int .u8 1, .int .i64 8, .int .i64 8, .int .u8 1, .int .u8 0, .int .u8 1, .bool false, .bool false, .int .u8 0, .int .u8 0, .int .u8 0, .int .u16 0, .int .u16 0, .int .u16 0, .slice none 0 0, .int .i64 0, .bool false, .int .i64 0, .slice none 0 0, .int .i64 0, .int .i64 0, .bool false, .int .u8 0, .int .i64 0, .bool false, .slice none 0 0, .bool false, .int .i64 0, .slice none 0 0, .slice none 0 0, .int .i64 0, .int .i64 0, .bool false, .int .i64 0, .bool inn, .int .u8 2, .int .i64 8, .slice PA pn pc, .int .i64 m0, .int .i64 (many : Int), .slice (some ⟨gX, 0, none⟩) many xc, .slice IA im ic, .int .i64 out] 54)).alloc (.cells #[.int .i64 0, .slice none 0 0, .int .i64 0, .slice none 0 0] 60)).alloc (.cells #[.int .u8 0, .int .u8 0, .bool false, .int .u8 0, .int .i64 0, .int .i64 0, .int .u8 0, .int .u8 0, .int .u8 0, .bool false, .bool false] 30) = w0 := ⟨_, rfl⟩
 have hb0 : Below w.heap.size w w0 := by rw [← hw0]; exact hb3 _ _ _
 have hX0 : w0.heap[w.heap.size]? = some (.cells #[.bool true, .int .u8 5, .int .u8 2, .bool inn, .int .u8 1, .int .i64 8, .int .i64 8, .int .u8 1, .int .u8 0, .int .u8 1, .bool false, .bool false, .int .u8 0, .int .u8 0, .int .u8 0, .int .u16 0, .int .u16 0, .int .u16 0, .slice none 0 0, .int .i64 0, .bool false, .int .i64 0, .slice none 0 0, .int .i64 0, .int .i64 0, .bool false, .int .u8 0, .int .i64 0, .bool false, .slice none 0 0, .bool false, .int .i64 0, .slice none 0 0, .slice none 0 0, .int .i64 0, .int .i64 0, .bool false, .int .i64 0, .bool inn, .int .u8 2, .int .i64 8, .slice PA pn pc, .int .i64 m0, .int .i64 (many : Int), .slice (some ⟨gX, 0, none⟩) many xc, .slice IA im ic, .int .i64 out] 54 (0, 0)) := by rw [← hw0]; exact alloc3_0 _ _ _ _
 have hX1 : w0.heap[w.heap.size + 1]? = some (.cells #[.int .i64 0, .slice none 0 0, .int .i64 0, .slice none 0 0] 60 (0, 0)) := by rw [← hw0]; exact alloc3_1 _ _ _ _
 have hX2 : w0.heap[w.heap.size + 1 + 1]? = some (.cells #[.int .u8 0, .int .u8 0, .bool false, .int .u8 0, .int .i64 0, .int .i64 0, .int .u8 0, .int .u8 0, .int .u8 0, .bool false, .bool false] 30 (0, 0)) := by rw [← hw0]; exact alloc3_2 _ _ _ _
 have hX2s : w.heap.size + 1 + 1 < w0.heap.size := (Array.getElem?_eq_some_iff.1 hX2).1
 rw [hw0]
 clear hw0 hb3
 have k0 := cell_of hX0 0
 have k1 := cell_of hX0 1
 have k2 := cell_of hX0 2
 have k3 := cell_of hX0 3
 have k4 := cell_of hX0 4
 have k5 := cell_of hX0 5
 have k6 := cell_of hX0 6
 have k7 := cell_of hX0 7
 have k8 := cell_of hX0 8
 have k9 := cell_of hX0 9
 have k10 := cell_of hX0 10
 have k11 := cell_of hX0 11
 go_upto_region 4 with fail
 obtain ⟨w1, hw1⟩ : ∃ w1, w0.alloc (.cells #[.int .u8 5, .int .u8 2, .bool inn, .int .u8 1, .int .i64 8, .int .i64 8, .int .u8 1, .int .u8 0, .int .u8 1, .bool false, .bool false] 30) = w1 := ⟨_, rfl⟩
 have hb1 : Below w0.heap.size w0 w1 := by rw [← hw1]; exact (Below.refl _ _).alloc (Nat.le_refl _) _
 have hQ1 : w1.heap[w0.heap.size]? = some (.cells #[.int .u8 5, .int .u8 2, .bool inn, .int .u8 1, .int .i64 8, .int .i64 8, .int .u8 1, .int .u8 0, .int .u8 1, .bool false, .bool false] 30 (0, 0)) := by rw [← hw1]; exact heap_alloc_new w0 _
 rw [hw1]
 clear hw1 k0 k1 k2 k3 k4 k5 k6 k7 k8 k9 k10 k11
 have hX0 := heap_below hX0 hb1
 have hX1 := heap_below hX1 hb1
 have hX2 := heap_below hX2 hb1
 have k45 := cell_of hX0 45
 have k46 := cell_of hX0 46
 have hs01 : w0.heap.size < w1.heap.size := (Array.getElem?_eq_some_iff.1 hQ1).1
 have hs00 : w.heap.size + 1 + 1 < w0.heap.size := by exact hX2s
 go_upto_region 5 with fail
 obtain ⟨w2, hw2⟩ : ∃ w2, w1.alloc (.cells #[.int .i64 0, .slice none 0 0, .int .i64 ((im : Int) + out), .slice none 0 0] 60) = w2 := ⟨_, rfl⟩
 have hb2 : Below w1.heap.size w1 w2 := by rw [← hw2]; exact (Below.refl _ _).alloc (Nat.le_refl _) _
 have hR2 : w2.heap[w1.heap.size]? = some (.cells #[.int .i64 0, .slice none 0 0, .int .i64 ((im : Int) + out), .slice none 0 0] 60 (0, 0)) := by rw [← hw2]; exact heap_alloc_new w1 _
 rw [hw2]
 clear hw2 k45 k46
 have hX0 := heap_below hX0 hb2
 have hX1 := heap_below hX1 hb2
 have hX2 := heap_below hX2 hb2
 have hQ2 := heap_below hQ1 hb2
 have q3 := cell_of hQ2 3
 have hs12 : w1.heap.size < w2.heap.size := (Array.getElem?_eq_some_iff.1 hR2).1
 have hbw := (hb0.trans (hb1.mono hb0.size)).trans (hb2.mono (by omega))
 have k38 := cell_of hX0 38
 have k39 := cell_of hX0 39
 have k40 := cell_of hX0 40
 have k41 := cell_of hX0 41
 have k42 := cell_of hX0 42
 have k43 := cell_of hX0 43
 have k44 := cell_of hX0 44
 have hX' : Pcs w2 (some ⟨gX, 0, none⟩) many xc us := hX.to (hX.lt.imp id fun hl a ea => hbw.block _ (hl a ea))
 have hpe := pend_ret inn 2 8 m0 many xc pn pc PA gX us e d w2 h1 h2 hX' (hD.below fun g o ho _ => heap_below ho hbw) hdl
 clear hX' hX hD
 go_wp2_with fail
 refine hpe.mono ?_
 clear hpe
 rintro e' w3 ⟨hb3, g, us', rfl, hP3, hD3, hg3⟩
 clear k38 k39 k40 k41 k42 k43 k44 q3
 have hX1 := heap_below hX1 hb3
 have hX2 := heap_below hX2 hb3
 have hQ3 := heap_below hQ2 hb3
 have hR3 := heap_below hR2 hb3
 have r3 := cell_of hR3 3
 have f3 := frozen_of hR3 3
 have hbw3 := hbw.trans (hb3.mono hbw.size)
 go_upto_region 23 with fail
 obtain ⟨w4, hw4⟩ : ∃ w4, w3.setCell ⟨w1.heap.size, 3, none⟩ (.slice (some ⟨g, 0, none⟩) many many) = w4 := ⟨_, rfl⟩
 have hW4 : Wrote w1.heap.size w3 w4 := by rw [← hw4]; exact (Wrote.refl _ w3).setCell 3 _
 have hR4 : w4.heap[w1.heap.size]? = some (.cells #[.int .i64 0, .slice none 0 0, .int .i64 ((im : Int) + out), .slice (some ⟨g, 0, none⟩) many many] 60 (0, 0)) := by rw [← hw4]; exact setCell_heap hR3 3 _
 rw [hw4]
 clear hw4 r3 f3
 have hX1 := (hW4.other (w.heap.size + 1) (by omega)).trans hX1
 have hX2 := (hW4.other (w.heap.size + 1 + 1) (by omega)).trans hX2
 have hQ4 := (hW4.other w0.heap.size (by omega)).trans hQ3
 have a0 := cell_of hR4 0
 have b0 := cell_of hX1 0
 have c0 := frozen_of hX1 0
 have a1 := cell_of hR4 1
 have b1 := cell_of hX1 1
 have c1 := frozen_of hX1 1
 have a2 := cell_of hR4 2
 have b2 := cell_of hX1 2
 have c2 := frozen_of hX1 2
 have a3 := cell_of hR4 3
 have b3 := cell_of hX1 3
 have c3 := frozen_of hX1 3
 have l0 := cell_of hQ4 0
 have m0 := cell_of hX2 0
 have n0 := frozen_of hX2 0
 have l1 := cell_of hQ4 1
 have m1 := cell_of hX2 1
 have n1 := frozen_of hX2 1
 have l2 := cell_of hQ4 2
 have m2 := cell_of hX2 2
 have n2 := frozen_of hX2 2
 have l3 := cell_of hQ4 3
 have m3 := cell_of hX2 3
 have n3 := frozen_of hX2 3
 have l4 := cell_of hQ4 4
 have m4 := cell_of hX2 4
 have n4 := frozen_of hX2 4
 have l5 := cell_of hQ4 5
 have m5 := cell_of hX2 5
 have n5 := frozen_of hX2 5
 have l6 := cell_of hQ4 6
 have m6 := cell_of hX2 6
 have n6 := frozen_of hX2 6
 have l7 := cell_of hQ4 7
 have m7 := cell_of hX2 7
 have n7 := frozen_of hX2 7
 have l8 := cell_of hQ4 8
 have m8 := cell_of hX2 8
 have n8 := frozen_of hX2 8
 have l9 := cell_of hQ4 9
 have m9 := cell_of hX2 9
 have n9 := frozen_of hX2 9
 have l10 := cell_of hQ4 10
 have m10 := cell_of hX2 10
 have n10 := frozen_of hX2 10
 go_region
 have hA := put4 hX1 (.int .i64 0) (.slice none 0 0) (.int .i64 ((im : Int) + out)) (.slice (some ⟨g, 0, none⟩) many many)
 generalize ((((w4.setCell ⟨w.heap.size + 1, 0, none⟩ (.int .i64 0)).setCell ⟨w.heap.size + 1, 1, none⟩ (.slice none 0 0)).setCell ⟨w.heap.size + 1, 2, none⟩ (.int .i64 ((im : Int) + out))).setCell ⟨w.heap.size + 1, 3, none⟩ (.slice (some ⟨g, 0, none⟩) many many)) = w5 at hA ⊢
 have hX25 := (hA.2.other (w.heap.size + 1 + 1) (by omega)).trans hX2
 have hB := put11 hX25 (.int .u8 5) (.int .u8 2) (.bool inn) (.int .u8 1) (.int .i64 8) (.int .i64 8) (.int .u8 1) (.int .u8 0) (.int .u8 1) (.bool false) (.bool false)
 generalize (((((((((((w5.setCell ⟨w.heap.size + 1 + 1, 0, none⟩ (.int .u8 5)).setCell ⟨w.heap.size + 1 + 1, 1, none⟩ (.int .u8 2)).setCell ⟨w.heap.size + 1 + 1, 2, none⟩ (.bool inn)).setCell ⟨w.heap.size + 1 + 1, 3, none⟩ (.int .u8 1)).setCell ⟨w.heap.size + 1 + 1, 4, none⟩ (.int .i64 8)).setCell ⟨w.heap.size + 1 + 1, 5, none⟩ (.int .i64 8)).setCell ⟨w.heap.size + 1 + 1, 6, none⟩ (.int .u8 1)).setCell ⟨w.heap.size + 1 + 1, 7, none⟩ (.int .u8 0)).setCell ⟨w.heap.size + 1 + 1, 8, none⟩ (.int .u8 1)).setCell ⟨w.heap.size + 1 + 1, 9, none⟩ (.bool false)).setCell ⟨w.heap.size + 1 + 1, 10, none⟩ (.bool false)) = w6 at hB ⊢
 obtain ⟨hA1, hA2⟩ := hA
 obtain ⟨hB1, hB2⟩ := hB
 have hA6 := (hB2.other (w.heap.size + 1) (by omega)).trans hA1
 go_wp2_with fail
 refine ret_cells2 _ _ _ _ _ _ _ _ _ rfl rfl rfl rfl (heap_drew1 hA6) Tryz.underlying60 rfl (by kernel_rfl) (heap_drew1 hB1) Tryz.underlying30 rfl (by kernel_rfl) rfl ?_
 have hg2 : w1.heap.size < g := by omega
 have hk4 : ∀ i, i ≠ w1.heap.size → i ≠ w.heap.size + 1 → i ≠ w.heap.size + 1 + 1 → w6.heap[i]? = w3.heap[i]? := fun i n1 n2 n3 => (hB2.other i n3).trans ((hA2.other i n2).trans (hW4.other i n1))
 refine ⟨(((hbw3.trans (hW4.below (by omega))).trans (hA2.below (by omega))).trans (hB2.below (by omega))).drew, g, us', rfl, (hP3.to (w' := w6.drew) (.inr fun a ea => ?_)), (hD3.below fun j o ho hcs => ?_), by omega⟩
 ·cases ea
  exact hk4 g (by omega) (by omega) (by omega)
 ·obtain ⟨cs, rfl⟩ := hcs
  refine (hk4 j ?_ ?_ ?_).trans ho
  ·rintro rfl
   rw [hR3] at ho
   cases ho
  ·rintro rfl
   have := (hW4.other (w.heap.size + 1) (by omega)).trans ho
   rw [hX1] at this
   cases this
  ·rintro rfl
   have := (hW4.other (w.heap.size + 1 + 1) (by omega)).trans ho
   rw [hX2] at this
   cases this
set_option maxHeartbeats 2000000 in
set_option maxRecDepth 1000000 in
theorem pend_no (inn : Bool) (en mx m0 : Int) (many xn xc pn pc : Nat) (PA XA : Option Addr) (w : World) (h1 : 1 ≤ many) (hx : xn < many) :
  Calls Tryz.prog 33 #[.agg #[.bool inn, .int .u8 en, .int .i64 mx, .slice PA pn pc, .int .i64 m0, .int .i64 (many : Int), .slice XA xn xc]] w fun e' w' => Below w.heap.size w w' ∧ e' = .returned (.tuple #[.slice none 0 0, .bool false]) := by
 have q0 : ((many : Int) == 0) = false := by simp; omega
 have q1 : (xn : Int) < (many : Int) := by omega
 go_enter Tryz.func33, Tryz.ntmps33
 go_wp2_with fail
 go_ret2
 exact ⟨(Below.refl _ _).alloc (Nat.le_refl _) _, rfl⟩
set_option maxHeartbeats 8000000 in
set_option maxRecDepth 1000000 in
theorem pipe_end_no (inn : Bool) (m0 out : Int) (many xn xc pn pc im ic : Nat) (PA IA XA : Option Addr) (w : World) (h1 : 1 ≤ many) (hx : xn < many) (hs : 0 ≤ (im : Int) + out ∧ (im : Int) + out ≤ 1000000) :
    Calls Tryz.prog 17 #[.agg #[.bool true, .int .u8 5, .int .u8 2, .bool inn, .int .u8 1, .int .i64 8, .int .i64 8, .int .u8 1, .int .u8 0, .int .u8 1, .bool false, .bool false, .int .u8 0, .int .u8 0, .int .u8 0, .int .u16 0, .int .u16 0, .int .u16 0, .slice none 0 0, .int .i64 0, .bool false, .int .i64 0, .slice none 0 0, .int .i64 0, .int .i64 0, .bool false, .int .u8 0, .int .i64 0, .bool false, .slice none 0 0, .bool false, .int .i64 0, .slice none 0 0, .slice none 0 0, .int .i64 0, .int .i64 0, .bool false, .int .i64 0, .bool inn, .int .u8 2, .int .i64 8, .slice PA pn pc, .int .i64 m0, .int .i64 (many : Int), .slice XA xn xc, .slice IA im ic, .int .i64 out]] w fun e' w' => Below w.heap.size w w' ∧ e' = .returned (.tuple #[.agg #[.int .i64 0, .slice none 0 0, .int .i64 0, .slice none 0 0], .agg #[.int .u8 0, .int .u8 0, .bool false, .int .u8 0, .int .i64 0, .int .i64 0, .int .u8 0, .int .u8 0, .int .u8 0, .bool false, .bool false], .bool false]) := by
  have hb3 : ∀ a b c, Below w.heap.size w (((w.alloc a).alloc b).alloc c) := fun a b c => (((Below.refl w.heap.size w).alloc (Nat.le_refl _) a).alloc (by simp) b).alloc (by simp; omega) c
  have hwr : IntKind.i64.wrap ((im : Int) + out) = (im : Int) + out := IntWalk.i64_in _ (by omega)
  go_enter Tryz.func17, Tryz.ntmps17
  go_upto_region 1 with fail
  obtain ⟨w0, hw0⟩ : ∃ w0, ((w.alloc (.cells #[.bool true, .int .u8 5, .int .u8 2, .bool inn, .int .u8 1, .int .i64 8, .int .i64 8, .int .u8 1, .int .u8 0, .int .u8 1, .bool false, .bool false, .int .u8 0, .int .u8 0, .int .u8 0, .int .u16 0, .int .u16 0, .int .u16 0, .slice none 0 0, .int .i64 0, .bool false, .int .i64 0, .slice none 0 0, .int .i64 0, .int .i64 0, .bool false, .int .u8 0, .int .i64 0, .bool false, .slice none 0 0, .bool false, .int .i64 0, .slice none 0 0, .slice none 0 0, .int .i64 0, .int .i64 0, .bool false, .int .i64 0, .bool inn, .int .u8 2, .int .i64 8, .slice PA pn pc, .int .i64 m0, .int .i64 (many : Int), .slice XA xn xc, .slice IA im ic, .int .i64 out] 54)).alloc (.cells #[.int .i64 0, .slice none 0 0, .int .i64 0, .slice none 0 0] 60)).alloc (.cells #[.int .u8 0, .int .u8 0, .bool false, .int .u8 0, .int .i64 0, .int .i64 0, .int .u8 0, .int .u8 0, .int .u8 0, .bool false, .bool false] 30) = w0 := ⟨_, rfl⟩
  have hb0 : Below w.heap.size w w0 := by rw [← hw0]; exact hb3 _ _ _
  have hX0 : w0.heap[w.heap.size]? = some (.cells #[.bool true, .int .u8 5, .int .u8 2, .bool inn, .int .u8 1, .int .i64 8, .int .i64 8, .int .u8 1, .int .u8 0, .int .u8 1, .bool false, .bool false, .int .u8 0, .int .u8 0, .int .u8 0, .int .u16 0, .int .u16 0, .int .u16 0, .slice none 0 0, .int .i64 0, .bool false, .int .i64 0, .slice none 0 0, .int .i64 0, .int .i64 0, .bool false, .int .u8 0, .int .i64 0, .bool false, .slice none 0 0, .bool false, .int .i64 0, .slice none 0 0, .slice none 0 0, .int .i64 0, .int .i64 0, .bool false, .int .i64 0, .bool inn, .int .u8 2, .int .i64 8, .slice PA pn pc, .int .i64 m0, .int .i64 (many : Int), .slice XA xn xc, .slice IA im ic, .int .i64 out] 54 (0, 0)) := by rw [← hw0]; exact alloc3_0 _ _ _ _
  have hX1 : w0.heap[w.heap.size + 1]? = some (.cells #[.int .i64 0, .slice none 0 0, .int .i64 0, .slice none 0 0] 60 (0, 0)) := by rw [← hw0]; exact alloc3_1 _ _ _ _
  have hX2 : w0.heap[w.heap.size + 1 + 1]? = some (.cells #[.int .u8 0, .int .u8 0, .bool false, .int .u8 0, .int .i64 0, .int .i64 0, .int .u8 0, .int .u8 0, .int .u8 0, .bool false, .bool false] 30 (0, 0)) := by rw [← hw0]; exact alloc3_2 _ _ _ _
  have hX2s : w.heap.size + 1 + 1 < w0.heap.size := (Array.getElem?_eq_some_iff.1 hX2).1
  rw [hw0]
  clear hw0 hb3
  have k0 := cell_of hX0 0
  have k1 := cell_of hX0 1
  have k2 := cell_of hX0 2
  have k3 := cell_of hX0 3
  have k4 := cell_of hX0 4
  have k5 := cell_of hX0 5
  have k6 := cell_of hX0 6
  have k7 := cell_of hX0 7
  have k8 := cell_of hX0 8
  have k9 := cell_of hX0 9
  have k10 := cell_of hX0 10
  have k11 := cell_of hX0 11
  go_upto_region 4 with fail
  obtain ⟨w1, hw1⟩ : ∃ w1, w0.alloc (.cells #[.int .u8 5, .int .u8 2, .bool inn, .int .u8 1, .int .i64 8, .int .i64 8, .int .u8 1, .int .u8 0, .int .u8 1, .bool false, .bool false] 30) = w1 := ⟨_, rfl⟩
  have hb1 : Below w0.heap.size w0 w1 := by rw [← hw1]; exact (Below.refl _ _).alloc (Nat.le_refl _) _
  have hQ1 : w1.heap[w0.heap.size]? = some (.cells #[.int .u8 5, .int .u8 2, .bool inn, .int .u8 1, .int .i64 8, .int .i64 8, .int .u8 1, .int .u8 0, .int .u8 1, .bool false, .bool false] 30 (0, 0)) := by rw [← hw1]; exact heap_alloc_new w0 _
  rw [hw1]
  clear hw1 k0 k1 k2 k3 k4 k5 k6 k7 k8 k9 k10 k11
  have hX0 := heap_below hX0 hb1
  have hX1 := heap_below hX1 hb1
  have hX2 := heap_below hX2 hb1
  have k45 := cell_of hX0 45
  have k46 := cell_of hX0 46
  have hs01 : w0.heap.size < w1.heap.size := (Array.getElem?_eq_some_iff.1 hQ1).1
  go_upto_region 5 with fail
  obtain ⟨w2, hw2⟩ : ∃ w2, w1.alloc (.cells #[.int .i64 0, .slice none 0 0, .int .i64 ((im : Int) + out), .slice none 0 0] 60) = w2 := ⟨_, rfl⟩
  have hb2 : Below w1.heap.size w1 w2 := by rw [← hw2]; exact (Below.refl _ _).alloc (Nat.le_refl _) _
  rw [hw2]
  clear hw2 k45 k46
  have hX0 := heap_below hX0 hb2
  have hX1 := heap_below hX1 hb2
  have hX2 := heap_below hX2 hb2
  have hQ2 := heap_below hQ1 hb2
  have q3 := cell_of hQ2 3
  have hbw := (hb0.trans (hb1.mono hb0.size)).trans (hb2.mono (by omega))
  have k38 := cell_of hX0 38
  have k39 := cell_of hX0 39
  have k40 := cell_of hX0 40
  have k41 := cell_of hX0 41
  have k42 := cell_of hX0 42
  have k43 := cell_of hX0 43
  have k44 := cell_of hX0 44
  go_wp2_with fail
  refine (pend_no inn 2 8 m0 many xn xc pn pc PA XA w2 h1 hx).mono ?_
  rintro e' w3 ⟨hb3, rfl⟩
  clear k38 k39 k40 k41 k42 k43 k44 q3
  have hX1 := heap_below hX1 hb3
  have hX2 := heap_below hX2 hb3
  have hbw3 := hbw.trans (hb3.mono hbw.size)
  go_wp2_with (guard_target =~ wpList _ _ _ (_ :: _) _ _; first
    | (refine wpList_store_row rfl (.tmp 2) (.tmp 93) 60 rfl (w.heap.size + 1) 0 60 _ _ #[.int .i64 0, .slice none 0 0, .int .i64 0, .slice none 0 0] rfl rfl hX1 (by kernel_rfl) (by simp) rfl rfl ?_
       intro w4 hR4 hW4
       have hX24 := (hW4.other (w.heap.size + 1 + 1) (by omega)).trans hX2)
    | (refine wpList_store_row rfl (.tmp 3) (.tmp 94) 30 rfl (w.heap.size + 1 + 1) 0 30 _ _ #[.int .u8 0, .int .u8 0, .bool false, .int .u8 0, .int .i64 0, .int .i64 0, .int .u8 0, .int .u8 0, .int .u8 0, .bool false, .bool false] rfl rfl hX24 (by kernel_rfl) (by simp) rfl rfl ?_
       intro w5 hQ5 hW5
       have hR5 := (hW5.other (w.heap.size + 1) (by omega)).trans hR4))
  exact ret_cells2 _ _ _ _ _ _ _ _ _ rfl rfl rfl rfl hR5 Tryz.underlying60 rfl (by kernel_rfl) hQ5 Tryz.underlying30 rfl (by kernel_rfl) rfl ⟨(hbw3.trans (hW4.below (by omega))).trans (hW5.below (by omega)), rfl⟩
end Go.Proofs.YtiajboiobjfcoaaGreatDoor
