/-
  What is proved here: what pipes.Stop returns for a stream IN.
  Conditions: what the received bytes' cells hold.
-/
import Derived.Test.YtiajboiobjfcoaaGreatDoorNR10
namespace Go.Proofs.YtiajboiobjfcoaaGreatDoor
open Go.Proofs Go.RowKit
attribute [local go_sem] lt2 lt3 lt4 lt5
theorem ret_cells3 {P : Program} {fn : Func} {p q : Tmp} {ty ty' : TypeId} {R : Ending → World → Prop} {a : Act} {w : World} (g g' : Nat) (t t' : TypeId) (cs cs' : Array Value) (d d' : TypeDesc) (hres : fn.results = #[.cell p ty, .cell q ty'])
  (hp : a.tmps.getD p undef = .pointer (some ⟨g, 0, none⟩)) (hq : a.tmps.getD q undef = .pointer (some ⟨g', 0, none⟩))
  (hg : w.heap[g]? = some (.cells cs t (0, 0))) (hty : P.underlying ty = some d) (hd : (match d with | .struct _ | .array _ _ => true | _ => false) = true) (hi : (P.info? ty).map (·.size) = some cs.size)
  (hg' : w.heap[g']? = some (.cells cs' t' (0, 0))) (hty' : P.underlying ty' = some d') (hd' : (match d' with | .struct _ | .array _ _ => true | _ => false) = true) (hi' : (P.info? ty').map (·.size) = some cs'.size) (hde : a.defers = [])
  (hR : R (.returned (.tuple #[.agg cs, .agg cs'])) w) : bodyPost P fn R .ret a w := by
 refine bodyPost_ret_by ?_ hde hR
 have h1 := run_loadVar_row (P := P) w g t ty cs (0, 0) d hg hty hd hi
 have h2 := run_loadVar_row (P := P) w g' t' ty' cs' (0, 0) d' hg' hty' hd' hi'
 have hr : (results fn a.tmps).run P w = ((asAddr (a.tmps.getD p undef)).run P w).andThen fun a₁ w₁ => ((loadVar ty a₁).run P w₁).andThen fun v w₂ => ((asAddr (a.tmps.getD q undef)).run P w₂).andThen fun a₂ w₃ => ((loadVar ty' a₂).run P w₃).andThen fun v' w₄ => .ok (.tuple #[v, v']) w₄ := by
  simp only [results, hres]
  simp [Sem.run_bind, Result.andThen]
 rw [hr, hp, hq]
 simp [asAddr, h1, h2]
def StopIn (tg ha : Bool) (e act : Int) (xs : List Int) (w : World) (e0 : Ending) (w' : World) : Prop :=
 Below w.heap.size w w' ∧ ∃ A c, e0 = .returned (.tuple #[.agg #[.int .i64 e, .slice A xs.length c, .int .i64 act, .slice none 0 0], .agg #[.int .u8 5, .int .u8 2, .bool true, .int .u8 2, .int .i64 8, .int .i64 0, .int .u8 1, .int .u8 0, .int .u8 1, .bool tg, .bool ha]]) ∧ U8 w' A xs.length c xs ∧ (xs.length = 0 ∨ ∃ g, A = some ⟨g, 0, none⟩ ∧ w.heap.size ≤ g)
set_option maxHeartbeats 8000000 in
set_option maxRecDepth 1000000 in
theorem stop_over (ptg btg : Bool) (len : Int) (DA : Option Addr) (dn dc : Nat) (act er e : Int) (IA : Option Addr) (im ic : Nat) (xs : List Int) (w : World) (hs : im ≤ 1000000) (hb : Bool) (mb : Option Nat) (hmb : w.cell? ⟨0, 0, none⟩ = some (.map mb)) (hlook : ∀ w', Below w.heap.size w w' → (Instr.lookup 116 (.map mb) (.int .i64 e) false).run Tryz.prog w' = .ok (.bool hb) w') (hD : U8 w DA dn dc xs) (hdn : dn ≤ 1000) :
  Calls Tryz.prog 11 #[.agg #[.bool true, .int .u8 5, .int .u8 2, .bool true, .int .u8 2, .int .i64 8, .int .i64 0, .int .u8 1, .int .u8 0, .int .u8 1, .bool ptg, .bool false, .int .u8 0, .int .u8 0, .int .u8 0, .int .u16 0, .int .u16 0, .int .u16 0, .slice none 0 0, .int .i64 0, .bool false, .int .i64 0, .slice none 0 0, .int .i64 0, .int .i64 0, .bool true, .int .u8 2, .int .i64 8, .bool btg, .slice none 0 0, .bool false, .int .i64 len, .slice none 0 0, .slice DA dn dc, .int .i64 act, .int .i64 er, .bool true, .int .i64 e, .bool false, .int .u8 0, .int .i64 0, .slice none 0 0, .int .i64 0, .int .i64 0, .slice none 0 0, .slice IA im ic, .int .i64 0]] w (StopIn btg hb e act xs w) := by
 have hb3 : ∀ a b c, Below w.heap.size w (((w.alloc a).alloc b).alloc c) := fun a b c => (((Below.refl w.heap.size w).alloc (Nat.le_refl _) a).alloc (by simp) b).alloc (by simp; omega) c
 have hwr : IntKind.i64.wrap ((im : Int) + 0) = (im : Int) := by rw [IntWalk.i64_in _ (by omega)]; omega
 have hwr' : IntKind.i64.wrap (im : Int) = (im : Int) := IntWalk.i64_in _ (by omega)
 go_enter Tryz.func11, Tryz.ntmps11
 go_upto_region 1 with fail
 obtain ⟨w0, hw0⟩ : ∃ w0, ((w.alloc (.cells #[.bool true, .int .u8 5, .int .u8 2, .bool true, .int .u8 2, .int .i64 8, .int .i64 0, .int .u8 1, .int .u8 0, .int .u8 1, .bool ptg, .bool false, .int .u8 0, .int .u8 0, .int .u8 0, .int .u16 0, .int .u16 0, .int .u16 0, .slice none 0 0, .int .i64 0, .bool false, .int .i64 0, .slice none 0 0, .int .i64 0, .int .i64 0, .bool true, .int .u8 2, .int .i64 8, .bool btg, .slice none 0 0, .bool false, .int .i64 len, .slice none 0 0, .slice DA dn dc, .int .i64 act, .int .i64 er, .bool true, .int .i64 e, .bool false, .int .u8 0, .int .i64 0, .slice none 0 0, .int .i64 0, .int .i64 0, .slice none 0 0, .slice IA im ic, .int .i64 0] 54)).alloc (.cells #[.int .i64 0, .slice none 0 0, .int .i64 0, .slice none 0 0] 60)).alloc (.cells #[.int .u8 0, .int .u8 0, .bool false, .int .u8 0, .int .i64 0, .int .i64 0, .int .u8 0, .int .u8 0, .int .u8 0, .bool false, .bool false] 30) = w0 := ⟨_, rfl⟩
 have hb0 : Below w.heap.size w w0 := by rw [← hw0]; exact hb3 _ _ _
 have hX0 : w0.heap[w.heap.size]? = some (.cells #[.bool true, .int .u8 5, .int .u8 2, .bool true, .int .u8 2, .int .i64 8, .int .i64 0, .int .u8 1, .int .u8 0, .int .u8 1, .bool ptg, .bool false, .int .u8 0, .int .u8 0, .int .u8 0, .int .u16 0, .int .u16 0, .int .u16 0, .slice none 0 0, .int .i64 0, .bool false, .int .i64 0, .slice none 0 0, .int .i64 0, .int .i64 0, .bool true, .int .u8 2, .int .i64 8, .bool btg, .slice none 0 0, .bool false, .int .i64 len, .slice none 0 0, .slice DA dn dc, .int .i64 act, .int .i64 er, .bool true, .int .i64 e, .bool false, .int .u8 0, .int .i64 0, .slice none 0 0, .int .i64 0, .int .i64 0, .slice none 0 0, .slice IA im ic, .int .i64 0] 54 (0, 0)) := by rw [← hw0]; exact alloc3_0 _ _ _ _
 have hX1 : w0.heap[w.heap.size + 1]? = some (.cells #[.int .i64 0, .slice none 0 0, .int .i64 0, .slice none 0 0] 60 (0, 0)) := by rw [← hw0]; exact alloc3_1 _ _ _ _
 have hX2 : w0.heap[w.heap.size + 1 + 1]? = some (.cells #[.int .u8 0, .int .u8 0, .bool false, .int .u8 0, .int .i64 0, .int .i64 0, .int .u8 0, .int .u8 0, .int .u8 0, .bool false, .bool false] 30 (0, 0)) := by rw [← hw0]; exact alloc3_2 _ _ _ _
 have hX2s : w.heap.size + 1 + 1 < w0.heap.size := (Array.getElem?_eq_some_iff.1 hX2).1
 rw [hw0]
 clear hw0 hb3
 have hend := pendB_over ptg btg len DA dn dc act er e IA im ic xs w0 hs hb mb ((hb0.cell (World.block_lt_of_cell? _ _ hmb)).trans hmb) (fun w' h => hlook w' (hb0.trans (h.mono hb0.size))) (hD.below hb0) hdn
 clear hlook hmb hD
 go_wp2_with (guard_target =~ wpList _ _ _ (_ :: _) _ _; refine wpList_load_row rfl (.tmp 1) 54 rfl w.heap.size 54 _ _ rfl hX0 Tryz.underlying54 rfl (by kernel_rfl) ?_)
 refine hend.mono ?_
 rintro e' w1 ⟨hb1, g, c, rfl, hF, hg⟩
 clear hend
 have hX1 := heap_below hX1 hb1
 have hX2 := heap_below hX2 hb1
 have hs1 := hb1.size
 have hbw1 := hb0.trans (hb1.mono hb0.size)
 clear hX0
 go_upto_region 2 with fail
 obtain ⟨w2, hw2⟩ : ∃ w2, (w1.alloc (.cells #[.int .i64 e, .slice (some ⟨g, 0, none⟩) xs.length c, .int .i64 act, .slice none 0 0] 60)).alloc (.cells #[.int .u8 5, .int .u8 2, .bool true, .int .u8 2, .int .i64 8, .int .i64 0, .int .u8 1, .int .u8 0, .int .u8 1, .bool btg, .bool hb] 30) = w2 := ⟨_, rfl⟩
 have hb2 : Below w1.heap.size w1 w2 := by rw [← hw2]; exact ((Below.refl w1.heap.size w1).alloc (Nat.le_refl _) _).alloc (by simp) _
 have hR2 : w2.heap[w1.heap.size]? = some (.cells #[.int .i64 e, .slice (some ⟨g, 0, none⟩) xs.length c, .int .i64 act, .slice none 0 0] 60 (0, 0)) := by rw [← hw2]; exact alloc2_0 _ _ _
 have hQ2 : w2.heap[w1.heap.size + 1]? = some (.cells #[.int .u8 5, .int .u8 2, .bool true, .int .u8 2, .int .i64 8, .int .i64 0, .int .u8 1, .int .u8 0, .int .u8 1, .bool btg, .bool hb] 30 (0, 0)) := by rw [← hw2]; exact alloc2_1 _ _ _
 have hX1 := heap_below hX1 hb2
 have hX2 := heap_below hX2 hb2
 have hF2 := hF.below hb2
 have hbw2 := hbw1.trans (hb2.mono hbw1.size)
 rw [hw2]
 clear hw2 hF
 go_upto_region 3 with fail
 have a0 := cell_of hR2 0
 have b0 := cell_of hX1 0
 have c0 := frozen_of hX1 0
 have a1 := cell_of hR2 1
 have b1 := cell_of hX1 1
 have c1 := frozen_of hX1 1
 have a2 := cell_of hR2 2
 have b2 := cell_of hX1 2
 have c2 := frozen_of hX1 2
 have a3 := cell_of hR2 3
 have b3 := cell_of hX1 3
 have c3 := frozen_of hX1 3
 have l0 := cell_of hQ2 0
 have m0 := cell_of hX2 0
 have n0 := frozen_of hX2 0
 have l1 := cell_of hQ2 1
 have m1 := cell_of hX2 1
 have n1 := frozen_of hX2 1
 have l2 := cell_of hQ2 2
 have m2 := cell_of hX2 2
 have n2 := frozen_of hX2 2
 have l3 := cell_of hQ2 3
 have m3 := cell_of hX2 3
 have n3 := frozen_of hX2 3
 have l4 := cell_of hQ2 4
 have m4 := cell_of hX2 4
 have n4 := frozen_of hX2 4
 have l5 := cell_of hQ2 5
 have m5 := cell_of hX2 5
 have n5 := frozen_of hX2 5
 have l6 := cell_of hQ2 6
 have m6 := cell_of hX2 6
 have n6 := frozen_of hX2 6
 have l7 := cell_of hQ2 7
 have m7 := cell_of hX2 7
 have n7 := frozen_of hX2 7
 have l8 := cell_of hQ2 8
 have m8 := cell_of hX2 8
 have n8 := frozen_of hX2 8
 have l9 := cell_of hQ2 9
 have m9 := cell_of hX2 9
 have n9 := frozen_of hX2 9
 have l10 := cell_of hQ2 10
 have m10 := cell_of hX2 10
 have n10 := frozen_of hX2 10
 go_region
 have hA := put4 hX1 (.int .i64 e) (.slice (some ⟨g, 0, none⟩) xs.length c) (.int .i64 act) (.slice none 0 0)
 generalize ((((w2.setCell ⟨w.heap.size + 1, 0, none⟩ (.int .i64 e)).setCell ⟨w.heap.size + 1, 1, none⟩ (.slice (some ⟨g, 0, none⟩) xs.length c)).setCell ⟨w.heap.size + 1, 2, none⟩ (.int .i64 act)).setCell ⟨w.heap.size + 1, 3, none⟩ (.slice none 0 0)) = w9 at hA ⊢
 have hX29 := (hA.2.other (w.heap.size + 1 + 1) (by omega)).trans hX2
 have hB := put11 hX29 (.int .u8 5) (.int .u8 2) (.bool true) (.int .u8 2) (.int .i64 8) (.int .i64 0) (.int .u8 1) (.int .u8 0) (.int .u8 1) (.bool btg) (.bool hb)
 generalize (((((((((((w9.setCell ⟨w.heap.size + 1 + 1, 0, none⟩ (.int .u8 5)).setCell ⟨w.heap.size + 1 + 1, 1, none⟩ (.int .u8 2)).setCell ⟨w.heap.size + 1 + 1, 2, none⟩ (.bool true)).setCell ⟨w.heap.size + 1 + 1, 3, none⟩ (.int .u8 2)).setCell ⟨w.heap.size + 1 + 1, 4, none⟩ (.int .i64 8)).setCell ⟨w.heap.size + 1 + 1, 5, none⟩ (.int .i64 0)).setCell ⟨w.heap.size + 1 + 1, 6, none⟩ (.int .u8 1)).setCell ⟨w.heap.size + 1 + 1, 7, none⟩ (.int .u8 0)).setCell ⟨w.heap.size + 1 + 1, 8, none⟩ (.int .u8 1)).setCell ⟨w.heap.size + 1 + 1, 9, none⟩ (.bool btg)).setCell ⟨w.heap.size + 1 + 1, 10, none⟩ (.bool hb)) = w10 at hB ⊢
 obtain ⟨hA1, hA2⟩ := hA
 obtain ⟨hB1, hB2⟩ := hB
 have hA10 := (hB2.other (w.heap.size + 1) (by omega)).trans hA1
 go_wp2_with fail
 refine ret_cells3 _ _ _ _ _ _ _ _ rfl rfl rfl (heap_drew1 hA10) Tryz.underlying60 rfl (by kernel_rfl) (heap_drew1 hB1) Tryz.underlying30 rfl (by kernel_rfl) rfl ?_
 have hk4 : ∀ i, i ≠ w.heap.size + 1 → i ≠ w.heap.size + 1 + 1 → w10.heap[i]? = w2.heap[i]? := fun i n2 n3 => (hB2.other i n3).trans (hA2.other i n2)
 exact ⟨((hbw2.trans (hA2.below (by omega))).trans (hB2.below (by omega))).drew, _, c, rfl, (hF2.heap (fun o ho => (hk4 g (by omega) (by omega)).trans ho)).u8, .inr ⟨g, rfl, by omega⟩⟩
set_option maxHeartbeats 8000000 in
set_option maxRecDepth 1000000 in
theorem stop_run (ptg btg : Bool) (len : Int) (DA : Option Addr) (dn dc : Nat) (act er e : Int) (IA : Option Addr) (im ic : Nat) (xs : List Int) (w : World) (hs : im ≤ 1000000) (hI : U8 w IA im ic xs) (him : im ≤ 1000) :
  Calls Tryz.prog 11 #[.agg #[.bool true, .int .u8 5, .int .u8 2, .bool true, .int .u8 2, .int .i64 8, .int .i64 0, .int .u8 1, .int .u8 0, .int .u8 1, .bool ptg, .bool false, .int .u8 0, .int .u8 0, .int .u8 0, .int .u16 0, .int .u16 0, .int .u16 0, .slice none 0 0, .int .i64 0, .bool false, .int .i64 0, .slice none 0 0, .int .i64 0, .int .i64 0, .bool true, .int .u8 2, .int .i64 8, .bool btg, .slice none 0 0, .bool false, .int .i64 len, .slice none 0 0, .slice DA dn dc, .int .i64 act, .int .i64 er, .bool false, .int .i64 e, .bool false, .int .u8 0, .int .i64 0, .slice none 0 0, .int .i64 0, .int .i64 0, .slice none 0 0, .slice IA im ic, .int .i64 0]] w (StopIn btg false 17 (im : Int) xs w) := by
 have hb3 : ∀ a b c, Below w.heap.size w (((w.alloc a).alloc b).alloc c) := fun a b c => (((Below.refl w.heap.size w).alloc (Nat.le_refl _) a).alloc (by simp) b).alloc (by simp; omega) c
 have hwr : IntKind.i64.wrap ((im : Int) + 0) = (im : Int) := by rw [IntWalk.i64_in _ (by omega)]; omega
 have hwr' : IntKind.i64.wrap (im : Int) = (im : Int) := IntWalk.i64_in _ (by omega)
 go_enter Tryz.func11, Tryz.ntmps11
 go_upto_region 1 with fail
 obtain ⟨w0, hw0⟩ : ∃ w0, ((w.alloc (.cells #[.bool true, .int .u8 5, .int .u8 2, .bool true, .int .u8 2, .int .i64 8, .int .i64 0, .int .u8 1, .int .u8 0, .int .u8 1, .bool ptg, .bool false, .int .u8 0, .int .u8 0, .int .u8 0, .int .u16 0, .int .u16 0, .int .u16 0, .slice none 0 0, .int .i64 0, .bool false, .int .i64 0, .slice none 0 0, .int .i64 0, .int .i64 0, .bool true, .int .u8 2, .int .i64 8, .bool btg, .slice none 0 0, .bool false, .int .i64 len, .slice none 0 0, .slice DA dn dc, .int .i64 act, .int .i64 er, .bool false, .int .i64 e, .bool false, .int .u8 0, .int .i64 0, .slice none 0 0, .int .i64 0, .int .i64 0, .slice none 0 0, .slice IA im ic, .int .i64 0] 54)).alloc (.cells #[.int .i64 0, .slice none 0 0, .int .i64 0, .slice none 0 0] 60)).alloc (.cells #[.int .u8 0, .int .u8 0, .bool false, .int .u8 0, .int .i64 0, .int .i64 0, .int .u8 0, .int .u8 0, .int .u8 0, .bool false, .bool false] 30) = w0 := ⟨_, rfl⟩
 have hb0 : Below w.heap.size w w0 := by rw [← hw0]; exact hb3 _ _ _
 have hX0 : w0.heap[w.heap.size]? = some (.cells #[.bool true, .int .u8 5, .int .u8 2, .bool true, .int .u8 2, .int .i64 8, .int .i64 0, .int .u8 1, .int .u8 0, .int .u8 1, .bool ptg, .bool false, .int .u8 0, .int .u8 0, .int .u8 0, .int .u16 0, .int .u16 0, .int .u16 0, .slice none 0 0, .int .i64 0, .bool false, .int .i64 0, .slice none 0 0, .int .i64 0, .int .i64 0, .bool true, .int .u8 2, .int .i64 8, .bool btg, .slice none 0 0, .bool false, .int .i64 len, .slice none 0 0, .slice DA dn dc, .int .i64 act, .int .i64 er, .bool false, .int .i64 e, .bool false, .int .u8 0, .int .i64 0, .slice none 0 0, .int .i64 0, .int .i64 0, .slice none 0 0, .slice IA im ic, .int .i64 0] 54 (0, 0)) := by rw [← hw0]; exact alloc3_0 _ _ _ _
 have hX1 : w0.heap[w.heap.size + 1]? = some (.cells #[.int .i64 0, .slice none 0 0, .int .i64 0, .slice none 0 0] 60 (0, 0)) := by rw [← hw0]; exact alloc3_1 _ _ _ _
 have hX2 : w0.heap[w.heap.size + 1 + 1]? = some (.cells #[.int .u8 0, .int .u8 0, .bool false, .int .u8 0, .int .i64 0, .int .i64 0, .int .u8 0, .int .u8 0, .int .u8 0, .bool false, .bool false] 30 (0, 0)) := by rw [← hw0]; exact alloc3_2 _ _ _ _
 have hX2s : w.heap.size + 1 + 1 < w0.heap.size := (Array.getElem?_eq_some_iff.1 hX2).1
 rw [hw0]
 clear hw0 hb3
 obtain rfl : xs.length = im := hI.1
 have hend := pendB_no ptg btg len DA dn dc act er e IA xs.length ic w0 hs
 go_wp2_with (guard_target =~ wpList _ _ _ (_ :: _) _ _; refine wpList_load_row rfl (.tmp 1) 54 rfl w.heap.size 54 _ _ rfl hX0 Tryz.underlying54 rfl (by kernel_rfl) ?_)
 refine hend.mono ?_
 rintro e' w1 ⟨hb1, rfl⟩
 clear hend
 have hX0 := heap_below hX0 hb1
 have hX1 := heap_below hX1 hb1
 have hX2 := heap_below hX2 hb1
 have hs1 := hb1.size
 have hbw1 := hb0.trans (hb1.mono hb0.size)
 go_upto_region 2 with fail
 obtain ⟨w2, hw2⟩ : ∃ w2, (w1.alloc (.cells #[.int .i64 0, .slice none 0 0, .int .i64 0, .slice none 0 0] 60)).alloc (.cells #[.int .u8 0, .int .u8 0, .bool false, .int .u8 0, .int .i64 0, .int .i64 0, .int .u8 0, .int .u8 0, .int .u8 0, .bool false, .bool false] 30) = w2 := ⟨_, rfl⟩
 have hb2 : Below w1.heap.size w1 w2 := by rw [← hw2]; exact ((Below.refl w1.heap.size w1).alloc (Nat.le_refl _) _).alloc (by simp) _
 have hX0 := heap_below hX0 hb2
 have hX1 := heap_below hX1 hb2
 have hX2 := heap_below hX2 hb2
 have hbw2 := hbw1.trans (hb2.mono hbw1.size)
 have hs2 := hb2.size
 rw [hw2]
 clear hw2
 have k0 := cell_of hX0 0
 have k1 := cell_of hX0 1
 have k2 := cell_of hX0 2
 have k3 := cell_of hX0 3
 have k4 := cell_of hX0 4
 have k5 := cell_of hX0 5
 have k6 := cell_of hX0 6
 have k7 := cell_of hX0 7
 have k8 := cell_of hX0 8
 have k9 := cell_of hX0 9
 have k10 := cell_of hX0 10
 have k11 := cell_of hX0 11
 go_upto_region 5 with fail
 obtain ⟨w3, hw3⟩ : ∃ w3, w2.alloc (.cells #[.int .u8 5, .int .u8 2, .bool true, .int .u8 2, .int .i64 8, .int .i64 0, .int .u8 1, .int .u8 0, .int .u8 1, .bool ptg, .bool false] 30) = w3 := ⟨_, rfl⟩
 have hb3 : Below w2.heap.size w2 w3 := by rw [← hw3]; exact (Below.refl _ _).alloc (Nat.le_refl _) _
 have hQ3 : w3.heap[w2.heap.size]? = some (.cells #[.int .u8 5, .int .u8 2, .bool true, .int .u8 2, .int .i64 8, .int .i64 0, .int .u8 1, .int .u8 0, .int .u8 1, .bool ptg, .bool false] 30 (0, 0)) := by rw [← hw3]; exact heap_alloc_new w2 _
 rw [hw3]
 clear hw3 k0 k1 k2 k3 k4 k5 k6 k7 k8 k9 k10 k11
 have hX0 := heap_below hX0 hb3
 have hX1 := heap_below hX1 hb3
 have hX2 := heap_below hX2 hb3
 have k45 := cell_of hX0 45
 have k46 := cell_of hX0 46
 have hs23 : w2.heap.size < w3.heap.size := (Array.getElem?_eq_some_iff.1 hQ3).1
 have hbw3 := hbw2.trans (hb3.mono hbw2.size)
 go_upto_region 6 with fail
 obtain ⟨w4, hw4⟩ : ∃ w4, w3.alloc (.cells #[.int .i64 17, .slice none 0 0, .int .i64 (xs.length : Int), .slice none 0 0] 60) = w4 := ⟨_, rfl⟩
 have hb4 : Below w3.heap.size w3 w4 := by rw [← hw4]; exact (Below.refl _ _).alloc (Nat.le_refl _) _
 have hR4 : w4.heap[w3.heap.size]? = some (.cells #[.int .i64 17, .slice none 0 0, .int .i64 (xs.length : Int), .slice none 0 0] 60 (0, 0)) := by rw [← hw4]; exact heap_alloc_new w3 _
 rw [hw4]
 clear hw4 k45 k46
 have hX0 := heap_below hX0 hb4
 have hX1 := heap_below hX1 hb4
 have hX2 := heap_below hX2 hb4
 have hQ4 := heap_below hQ3 hb4
 have hs34 : w3.heap.size < w4.heap.size := (Array.getElem?_eq_some_iff.1 hR4).1
 have hbw4 := hbw3.trans (hb4.mono hbw3.size)
 have hI4 := hI.below hbw4
 have q3 := cell_of hQ4 3
 have k45 := cell_of hX0 45
 have hcl := sclone_ret IA xs.length ic xs w4 hI4 him
 clear hI hI4
 go_wp2_with fail
 refine hcl.mono ?_
 rintro e' w5 ⟨hb5, A', c', rfl, hU5, hA5⟩
 clear hcl k45 q3
 have hcp := clip_ret A' xs.length c' w5 hU5.2.2.1
 have hU5' : U8 w5 A' xs.length xs.length xs := by
  obtain ⟨h1, h2, h3, h4⟩ := hU5
  exact ⟨h1, h2, Nat.le_refl _, h4.imp (fun ⟨a, b, _⟩ => ⟨a, b, b⟩) id⟩
 have hX0 := heap_below hX0 hb5
 have hX1 := heap_below hX1 hb5
 have hX2 := heap_below hX2 hb5
 have hQ5 := heap_below hQ4 hb5
 have hR5 := heap_below hR4 hb5
 have hbw5 := hbw4.trans (hb5.mono hbw4.size)
 have hs5 := hb5.size
 have z1 := cell_of hR5 1
 have f1 := frozen_of hR5 1
 go_wp2_with fail
 refine hcp.mono ?_
 rintro e' w6 ⟨rfl, rfl⟩
 clear hcp
 go_upto_region 9 with fail
 obtain ⟨w7, hw7⟩ : ∃ w7, w6.setCell ⟨w3.heap.size, 1, none⟩ (.slice A' xs.length xs.length) = w7 := ⟨_, rfl⟩
 have hW7 : Wrote w3.heap.size w6 w7 := by rw [← hw7]; exact (Wrote.refl _ w6).setCell 1 _
 have hR7 : w7.heap[w3.heap.size]? = some (.cells #[.int .i64 17, .slice A' xs.length xs.length, .int .i64 (xs.length : Int), .slice none 0 0] 60 (0, 0)) := by rw [← hw7]; exact setCell_heap hR5 1 _
 rw [hw7]
 clear hw7 z1 f1
 have hX0 := (hW7.other w.heap.size (by omega)).trans hX0
 have hX1 := (hW7.other (w.heap.size + 1) (by omega)).trans hX1
 have hX2 := (hW7.other (w.heap.size + 1 + 1) (by omega)).trans hX2
 have hQ7 := (hW7.other w2.heap.size (by omega)).trans hQ5
 have hU7 : U8 w7 A' xs.length xs.length xs := u8_to hU5' (hA5.imp id fun ⟨g, e, h⟩ a ea => by rw [e] at ea; cases ea; exact hW7.other g (by omega))
 have hs7 : w7.heap.size = w6.heap.size := hW7.size
 have hA7 : xs.length = 0 ∨ ∃ g, A' = some ⟨g, 0, none⟩ ∧ w4.heap.size ≤ g ∧ g < w7.heap.size := by
  rcases u8_lt hU7 with h | h
  ·exact .inl h
  ·exact hA5.imp id fun ⟨g, e, h'⟩ => ⟨g, e, h', h _ e⟩
 have hbw7 := hbw5.trans (hW7.below (by omega))
 have q3 := cell_of hQ7 3
 have hXP : w.heap.size < w2.heap.size := by omega
 have htog := fun w' : World => toggle_ret true 2 8 btg false len none 0 0 DA dn dc act er false e w'
 unfold trV at htog
 clear hU5 hU5' hA5 hR5 hQ5 hW7 hQ4 hQ3 hR4
 go_upto_region 10 with fail
 clear q3
 refine r10s (w7 := w7) (X := w.heap.size) (P := w2.heap.size) ptg btg len DA dn dc act er e IA xs.length ic (by kernel_rfl) rfl
  ⟨_, rfl, rfl, rfl, rfl, by kernel_rfl⟩ ⟨_, rfl, rfl, rfl, rfl, by kernel_rfl⟩ ⟨_, rfl, rfl, rfl, rfl, by kernel_rfl⟩ ⟨_, rfl, rfl, rfl, rfl, by kernel_rfl⟩ ⟨_, rfl, rfl, rfl, rfl, by kernel_rfl⟩ ⟨_, rfl, rfl, rfl, rfl, by kernel_rfl⟩ ⟨_, rfl, rfl, rfl, rfl, by kernel_rfl⟩ ⟨_, rfl, rfl, rfl, rfl, by kernel_rfl⟩ ⟨_, rfl, rfl, rfl, rfl, by kernel_rfl⟩ ⟨_, rfl, rfl, rfl, rfl, by kernel_rfl⟩ ⟨_, rfl, rfl, rfl, rfl, by kernel_rfl⟩ ⟨_, rfl, rfl, rfl, rfl, by kernel_rfl⟩ ⟨_, rfl, rfl, rfl, rfl, by kernel_rfl⟩ ⟨_, rfl, rfl, rfl, rfl, by kernel_rfl⟩ ⟨_, rfl, rfl, rfl, rfl, by kernel_rfl⟩ ⟨_, rfl, rfl, rfl, rfl, by kernel_rfl⟩
  rfl rfl rfl hX0 hXP hQ7 htog ?_
 intro a9 w8 hF9 hWS
 rw [hF9.puts]
 simp only [List.foldl_cons, List.foldl_nil]
 generalize a9.eval (.tmp 45) = y45
 generalize a9.eval (.tmp 46) = y46
 generalize a9.eval (.tmp 47) = y47
 generalize a9.eval (.tmp 48) = y48
 generalize a9.eval (.tmp 49) = y49
 generalize a9.eval (.tmp 50) = y50
 generalize a9.eval (.tmp 51) = y51
 generalize a9.eval (.tmp 52) = y52
 generalize a9.eval (.tmp 53) = y53
 generalize a9.eval (.tmp 54) = y54
 generalize a9.eval (.tmp 55) = y55
 generalize a9.eval (.tmp 56) = y56
 generalize a9.eval (.tmp 57) = y57
 generalize a9.eval (.tmp 58) = y58
 simp only [Act.put, List.setIfInBounds_toArray, List.set_cons_succ, List.set_cons_zero]
 obtain ⟨hb8, hk8, hQ8⟩ := hWS
 have hX1 := (hb8.block (w.heap.size + 1) (by omega)).trans hX1
 have hX2 := (hb8.block (w.heap.size + 1 + 1) (by omega)).trans hX2
 have hR8 := (hk8 w3.heap.size (by omega) (by omega)).trans hR7
 have hU8 : U8 w8 A' xs.length xs.length xs := u8_to hU7 (hA7.imp id fun ⟨g, e, h, h'⟩ a ea => by rw [e] at ea; cases ea; exact hk8 g (by omega) h')
 have hbw8 := hbw7.trans (hb8.mono (by omega))
 clear hX0 hQ7 hR7 hU7 htog hF9
 go_upto_region 11 with fail
 have a0 := cell_of hR8 0
 have b0 := cell_of hX1 0
 have c0 := frozen_of hX1 0
 have a1 := cell_of hR8 1
 have b1 := cell_of hX1 1
 have c1 := frozen_of hX1 1
 have a2 := cell_of hR8 2
 have b2 := cell_of hX1 2
 have c2 := frozen_of hX1 2
 have a3 := cell_of hR8 3
 have b3 := cell_of hX1 3
 have c3 := frozen_of hX1 3
 have l0 := cell_of hQ8 0
 have m0 := cell_of hX2 0
 have n0 := frozen_of hX2 0
 have l1 := cell_of hQ8 1
 have m1 := cell_of hX2 1
 have n1 := frozen_of hX2 1
 have l2 := cell_of hQ8 2
 have m2 := cell_of hX2 2
 have n2 := frozen_of hX2 2
 have l3 := cell_of hQ8 3
 have m3 := cell_of hX2 3
 have n3 := frozen_of hX2 3
 have l4 := cell_of hQ8 4
 have m4 := cell_of hX2 4
 have n4 := frozen_of hX2 4
 have l5 := cell_of hQ8 5
 have m5 := cell_of hX2 5
 have n5 := frozen_of hX2 5
 have l6 := cell_of hQ8 6
 have m6 := cell_of hX2 6
 have n6 := frozen_of hX2 6
 have l7 := cell_of hQ8 7
 have m7 := cell_of hX2 7
 have n7 := frozen_of hX2 7
 have l8 := cell_of hQ8 8
 have m8 := cell_of hX2 8
 have n8 := frozen_of hX2 8
 have l9 := cell_of hQ8 9
 have m9 := cell_of hX2 9
 have n9 := frozen_of hX2 9
 have l10 := cell_of hQ8 10
 have m10 := cell_of hX2 10
 have n10 := frozen_of hX2 10
 go_region
 have hA := put4 hX1 (.int .i64 17) (.slice A' xs.length xs.length) (.int .i64 (xs.length : Int)) (.slice none 0 0)
 generalize ((((w8.setCell ⟨w.heap.size + 1, 0, none⟩ (.int .i64 17)).setCell ⟨w.heap.size + 1, 1, none⟩ (.slice A' xs.length xs.length)).setCell ⟨w.heap.size + 1, 2, none⟩ (.int .i64 (xs.length : Int))).setCell ⟨w.heap.size + 1, 3, none⟩ (.slice none 0 0)) = w9 at hA ⊢
 have hX29 := (hA.2.other (w.heap.size + 1 + 1) (by omega)).trans hX2
 have hB := put11 hX29 (.int .u8 5) (.int .u8 2) (.bool true) (.int .u8 2) (.int .i64 8) (.int .i64 0) (.int .u8 1) (.int .u8 0) (.int .u8 1) (.bool btg) (.bool false)
 generalize (((((((((((w9.setCell ⟨w.heap.size + 1 + 1, 0, none⟩ (.int .u8 5)).setCell ⟨w.heap.size + 1 + 1, 1, none⟩ (.int .u8 2)).setCell ⟨w.heap.size + 1 + 1, 2, none⟩ (.bool true)).setCell ⟨w.heap.size + 1 + 1, 3, none⟩ (.int .u8 2)).setCell ⟨w.heap.size + 1 + 1, 4, none⟩ (.int .i64 8)).setCell ⟨w.heap.size + 1 + 1, 5, none⟩ (.int .i64 0)).setCell ⟨w.heap.size + 1 + 1, 6, none⟩ (.int .u8 1)).setCell ⟨w.heap.size + 1 + 1, 7, none⟩ (.int .u8 0)).setCell ⟨w.heap.size + 1 + 1, 8, none⟩ (.int .u8 1)).setCell ⟨w.heap.size + 1 + 1, 9, none⟩ (.bool btg)).setCell ⟨w.heap.size + 1 + 1, 10, none⟩ (.bool false)) = w10 at hB ⊢
 obtain ⟨hA1, hA2⟩ := hA
 obtain ⟨hB1, hB2⟩ := hB
 have hA10 := (hB2.other (w.heap.size + 1) (by omega)).trans hA1
 go_wp2_with fail
 refine ret_cells3 _ _ _ _ _ _ _ _ rfl rfl rfl (heap_drew1 hA10) Tryz.underlying60 rfl (by kernel_rfl) (heap_drew1 hB1) Tryz.underlying30 rfl (by kernel_rfl) rfl ?_
 have hk4 : ∀ i, i ≠ w.heap.size + 1 → i ≠ w.heap.size + 1 + 1 → w10.heap[i]? = w8.heap[i]? := fun i n2 n3 => (hB2.other i n3).trans (hA2.other i n2)
 exact ⟨((hbw8.trans (hA2.below (by omega))).trans (hB2.below (by omega))).drew, A', _, rfl, u8_to hU8 (hA7.imp id fun ⟨g, e, h, _⟩ a ea => by rw [e] at ea; cases ea; exact hk4 g (by omega) (by omega)), hA7.imp id fun ⟨g, e, h, _⟩ => ⟨g, e, by omega⟩⟩
end Go.Proofs.YtiajboiobjfcoaaGreatDoor
