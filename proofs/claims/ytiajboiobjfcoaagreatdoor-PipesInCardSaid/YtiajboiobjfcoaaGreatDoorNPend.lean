/-
  What is proved here: what pipes.End returns for a stream IN.
  Conditions: what the received bytes' cells hold.
-/
import Derived.Test.YtiajboiobjfcoaaGreatDoorNBend
import Derived.Test.YtiajboiobjfcoaaGreatDoorNPans
import Derived.Test.YtiajboiobjfcoaaGreatDoorOR14
import Derived.Deep.CutRange
import Derived.Deep.CutBlock
namespace Go.Proofs.YtiajboiobjfcoaaGreatDoor
open Go.Proofs Go.RowKit
attribute [local go_sem] lt2 lt3 lt4 lt5
set_option maxHeartbeats 8000000 in
set_option maxRecDepth 1000000 in
theorem pendB_no (ptg btg : Bool) (len : Int) (DA : Option Addr) (dn dc : Nat) (act er e : Int) (IA : Option Addr) (im ic : Nat) (w : World) (hs : im ≤ 1000000) :
    Calls Tryz.prog 17 #[.agg #[.bool true, .int .u8 5, .int .u8 2, .bool true, .int .u8 2, .int .i64 8, .int .i64 0, .int .u8 1, .int .u8 0, .int .u8 1, .bool ptg, .bool false, .int .u8 0, .int .u8 0, .int .u8 0, .int .u16 0, .int .u16 0, .int .u16 0, .slice none 0 0, .int .i64 0, .bool false, .int .i64 0, .slice none 0 0, .int .i64 0, .int .i64 0, .bool true, .int .u8 2, .int .i64 8, .bool btg, .slice none 0 0, .bool false, .int .i64 len, .slice none 0 0, .slice DA dn dc, .int .i64 act, .int .i64 er, .bool false, .int .i64 e, .bool false, .int .u8 0, .int .i64 0, .slice none 0 0, .int .i64 0, .int .i64 0, .slice none 0 0, .slice IA im ic, .int .i64 0]] w fun e' w' => Below w.heap.size w w' ∧ e' = .returned (.tuple #[.agg #[.int .i64 0, .slice none 0 0, .int .i64 0, .slice none 0 0], .agg #[.int .u8 0, .int .u8 0, .bool false, .int .u8 0, .int .i64 0, .int .i64 0, .int .u8 0, .int .u8 0, .int .u8 0, .bool false, .bool false], .bool false]) := by
  have hb3 : ∀ a b c, Below w.heap.size w (((w.alloc a).alloc b).alloc c) := fun a b c => (((Below.refl w.heap.size w).alloc (Nat.le_refl _) a).alloc (by simp) b).alloc (by simp; omega) c
  have hwr : IntKind.i64.wrap ((im : Int) + 0) = (im : Int) := by rw [IntWalk.i64_in _ (by omega)]; omega
  have hwr' : IntKind.i64.wrap (im : Int) = (im : Int) := IntWalk.i64_in _ (by omega)
  go_enter Tryz.func17, Tryz.ntmps17
  go_upto_region 1 with fail
  obtain ⟨w0, hw0⟩ : ∃ w0, ((w.alloc (.cells #[.bool true, .int .u8 5, .int .u8 2, .bool true, .int .u8 2, .int .i64 8, .int .i64 0, .int .u8 1, .int .u8 0, .int .u8 1, .bool ptg, .bool false, .int .u8 0, .int .u8 0, .int .u8 0, .int .u16 0, .int .u16 0, .int .u16 0, .slice none 0 0, .int .i64 0, .bool false, .int .i64 0, .slice none 0 0, .int .i64 0, .int .i64 0, .bool true, .int .u8 2, .int .i64 8, .bool btg, .slice none 0 0, .bool false, .int .i64 len, .slice none 0 0, .slice DA dn dc, .int .i64 act, .int .i64 er, .bool false, .int .i64 e, .bool false, .int .u8 0, .int .i64 0, .slice none 0 0, .int .i64 0, .int .i64 0, .slice none 0 0, .slice IA im ic, .int .i64 0] 54)).alloc (.cells #[.int .i64 0, .slice none 0 0, .int .i64 0, .slice none 0 0] 60)).alloc (.cells #[.int .u8 0, .int .u8 0, .bool false, .int .u8 0, .int .i64 0, .int .i64 0, .int .u8 0, .int .u8 0, .int .u8 0, .bool false, .bool false] 30) = w0 := ⟨_, rfl⟩
  have hb0 : Below w.heap.size w w0 := by rw [← hw0]; exact hb3 _ _ _
  have hX0 : w0.heap[w.heap.size]? = some (.cells #[.bool true, .int .u8 5, .int .u8 2, .bool true, .int .u8 2, .int .i64 8, .int .i64 0, .int .u8 1, .int .u8 0, .int .u8 1, .bool ptg, .bool false, .int .u8 0, .int .u8 0, .int .u8 0, .int .u16 0, .int .u16 0, .int .u16 0, .slice none 0 0, .int .i64 0, .bool false, .int .i64 0, .slice none 0 0, .int .i64 0, .int .i64 0, .bool true, .int .u8 2, .int .i64 8, .bool btg, .slice none 0 0, .bool false, .int .i64 len, .slice none 0 0, .slice DA dn dc, .int .i64 act, .int .i64 er, .bool false, .int .i64 e, .bool false, .int .u8 0, .int .i64 0, .slice none 0 0, .int .i64 0, .int .i64 0, .slice none 0 0, .slice IA im ic, .int .i64 0] 54 (0, 0)) := by rw [← hw0]; exact alloc3_0 _ _ _ _
  have hX1 : w0.heap[w.heap.size + 1]? = some (.cells #[.int .i64 0, .slice none 0 0, .int .i64 0, .slice none 0 0] 60 (0, 0)) := by rw [← hw0]; exact alloc3_1 _ _ _ _
  have hX2 : w0.heap[w.heap.size + 1 + 1]? = some (.cells #[.int .u8 0, .int .u8 0, .bool false, .int .u8 0, .int .i64 0, .int .i64 0, .int .u8 0, .int .u8 0, .int .u8 0, .bool false, .bool false] 30 (0, 0)) := by rw [← hw0]; exact alloc3_2 _ _ _ _
  have hX2s : w.heap.size + 1 + 1 < w0.heap.size := (Array.getElem?_eq_some_iff.1 hX2).1
  rw [hw0]
  clear hw0 hb3
  have k0 := cell_of hX0 0
  have k1 := cell_of hX0 1
  have k2 := cell_of hX0 2
  have k3 := cell_of hX0 3
  have k4 := cell_of hX0 4
  have k5 := cell_of hX0 5
  have k6 := cell_of hX0 6
  have k7 := cell_of hX0 7
  have k8 := cell_of hX0 8
  have k9 := cell_of hX0 9
  have k10 := cell_of hX0 10
  have k11 := cell_of hX0 11
  go_upto_region 4 with fail
  obtain ⟨w1, hw1⟩ : ∃ w1, w0.alloc (.cells #[.int .u8 5, .int .u8 2, .bool true, .int .u8 2, .int .i64 8, .int .i64 0, .int .u8 1, .int .u8 0, .int .u8 1, .bool ptg, .bool false] 30) = w1 := ⟨_, rfl⟩
  have hb1 : Below w0.heap.size w0 w1 := by rw [← hw1]; exact (Below.refl _ _).alloc (Nat.le_refl _) _
  have hQ1 : w1.heap[w0.heap.size]? = some (.cells #[.int .u8 5, .int .u8 2, .bool true, .int .u8 2, .int .i64 8, .int .i64 0, .int .u8 1, .int .u8 0, .int .u8 1, .bool ptg, .bool false] 30 (0, 0)) := by rw [← hw1]; exact heap_alloc_new w0 _
  rw [hw1]
  clear hw1 k0 k1 k2 k3 k4 k5 k6 k7 k8 k9 k10 k11
  have hX0 := heap_below hX0 hb1
  have hX1 := heap_below hX1 hb1
  have hX2 := heap_below hX2 hb1
  have k45 := cell_of hX0 45
  have k46 := cell_of hX0 46
  have hs01 : w0.heap.size < w1.heap.size := (Array.getElem?_eq_some_iff.1 hQ1).1
  go_upto_region 5 with fail
  obtain ⟨w2, hw2⟩ : ∃ w2, w1.alloc (.cells #[.int .i64 0, .slice none 0 0, .int .i64 (im : Int), .slice none 0 0] 60) = w2 := ⟨_, rfl⟩
  have hb2 : Below w1.heap.size w1 w2 := by rw [← hw2]; exact (Below.refl _ _).alloc (Nat.le_refl _) _
  have hR2 : w2.heap[w1.heap.size]? = some (.cells #[.int .i64 0, .slice none 0 0, .int .i64 (im : Int), .slice none 0 0] 60 (0, 0)) := by rw [← hw2]; exact heap_alloc_new w1 _
  rw [hw2]
  clear hw2 k45 k46
  have hX0 := heap_below hX0 hb2
  have hX1 := heap_below hX1 hb2
  have hX2 := heap_below hX2 hb2
  have hQ2 := heap_below hQ1 hb2
  have q3 := cell_of hQ2 3
  have hs12 : w1.heap.size < w2.heap.size := (Array.getElem?_eq_some_iff.1 hR2).1
  have hbw := (hb0.trans (hb1.mono hb0.size)).trans (hb2.mono (by omega))
  have k25 := cell_of hX0 25
  have k26 := cell_of hX0 26
  have k27 := cell_of hX0 27
  have k28 := cell_of hX0 28
  have k29 := cell_of hX0 29
  have k30 := cell_of hX0 30
  have k31 := cell_of hX0 31
  have k32 := cell_of hX0 32
  have k33 := cell_of hX0 33
  have k34 := cell_of hX0 34
  have k35 := cell_of hX0 35
  have k36 := cell_of hX0 36
  have k37 := cell_of hX0 37
  have hbe := bend_not true 2 8 btg false len none 0 0 DA dn dc act er e w2
  unfold trV at hbe
  go_wp2_with fail
  refine hbe.mono ?_
  rintro e' w3 ⟨hb3, rfl⟩
  clear hbe k25 k26 k27 k28 k29 k30 k31 k32 k33 k34 k35 k36 k37 q3
  have hbE := (Below.refl w3.heap.size w3).alloc (Nat.le_refl _) (.cells #[.int .i64 0, .slice none 0 0, .int .i64 0] 113)
  have hX1 := heap_below (heap_below hX1 hb3) hbE
  have hX2 := heap_below (heap_below hX2 hb3) hbE
  have hs3 := hb3.size
  have hbw3 := (hbw.trans (hb3.mono hbw.size)).trans (hbE.mono (by omega))
  go_wp2_with (guard_target =~ wpList _ _ _ (_ :: _) _ _; first
    | (refine wpList_store_row rfl (.tmp 2) (.tmp 37) 60 rfl (w.heap.size + 1) 0 60 _ _ #[.int .i64 0, .slice none 0 0, .int .i64 0, .slice none 0 0] rfl rfl hX1 (by kernel_rfl) (by simp) rfl rfl ?_
       intro w4 hR4 hW4
       have hX24 := (hW4.other (w.heap.size + 1 + 1) (by omega)).trans hX2)
    | (refine wpList_store_row rfl (.tmp 3) (.tmp 38) 30 rfl (w.heap.size + 1 + 1) 0 30 _ _ #[.int .u8 0, .int .u8 0, .bool false, .int .u8 0, .int .i64 0, .int .i64 0, .int .u8 0, .int .u8 0, .int .u8 0, .bool false, .bool false] rfl rfl hX24 (by kernel_rfl) (by simp) rfl rfl ?_
       intro w5 hQ5 hW5
       have hR5 := (hW5.other (w.heap.size + 1) (by omega)).trans hR4))
  exact ret_cells2 _ _ _ _ _ _ _ _ _ rfl rfl rfl rfl hR5 Tryz.underlying60 rfl (by kernel_rfl) hQ5 Tryz.underlying30 rfl (by kernel_rfl) rfl ⟨(hbw3.trans (hW4.below (by omega))).trans (hW5.below (by omega)), rfl⟩
def PendOver (btg hb : Bool) (e act : Int) (xs : List Int) (w : World) (e0 : Ending) (w' : World) : Prop :=
 Below w.heap.size w w' ∧ ∃ g c, e0 = .returned (.tuple #[.agg #[.int .i64 e, .slice (some ⟨g, 0, none⟩) xs.length c, .int .i64 act, .slice none 0 0], .agg #[.int .u8 5, .int .u8 2, .bool true, .int .u8 2, .int .i64 8, .int .i64 0, .int .u8 1, .int .u8 0, .int .u8 1, .bool btg, .bool hb], .bool true]) ∧ F8 w' g xs.length c xs ∧ w.heap.size ≤ g
def PendMid (btg hb : Bool) (e act : Int) (xs : List Int) (p r : Nat) (w w' : World) : Prop :=
 Below w.heap.size w w' ∧ ∃ g c, F8 w' g xs.length c xs ∧ r < g ∧ w'.heap[w.heap.size + 1]? = some (.cells #[.int .i64 0, .slice none 0 0, .int .i64 0, .slice none 0 0] 60 (0, 0)) ∧ w'.heap[w.heap.size + 1 + 1]? = some (.cells #[.int .u8 0, .int .u8 0, .bool false, .int .u8 0, .int .i64 0, .int .i64 0, .int .u8 0, .int .u8 0, .int .u8 0, .bool false, .bool false] 30 (0, 0)) ∧
  w'.heap[p]? = some (.cells #[.int .u8 5, .int .u8 2, .bool true, .int .u8 2, .int .i64 8, .int .i64 0, .int .u8 1, .int .u8 0, .int .u8 1, .bool btg, .bool hb] 30 (0, 0)) ∧ w'.heap[r]? = some (.cells #[.int .i64 e, .slice (some ⟨g, 0, none⟩) xs.length c, .int .i64 act, .slice none 0 0] 60 (0, 0))
set_option maxHeartbeats 8000000 in
set_option maxRecDepth 1000000 in
theorem pendB_over (ptg btg : Bool) (len : Int) (DA : Option Addr) (dn dc : Nat) (act er e : Int) (IA : Option Addr) (im ic : Nat) (xs : List Int) (w : World) (hs : im ≤ 1000000) (hb : Bool) (mb : Option Nat) (hmb : w.cell? ⟨0, 0, none⟩ = some (.map mb)) (hlook : ∀ w', Below w.heap.size w w' → (Instr.lookup 116 (.map mb) (.int .i64 e) false).run Tryz.prog w' = .ok (.bool hb) w') (hD : U8 w DA dn dc xs) (hdn : dn ≤ 1000) :
  Calls Tryz.prog 17 #[.agg #[.bool true, .int .u8 5, .int .u8 2, .bool true, .int .u8 2, .int .i64 8, .int .i64 0, .int .u8 1, .int .u8 0, .int .u8 1, .bool ptg, .bool false, .int .u8 0, .int .u8 0, .int .u8 0, .int .u16 0, .int .u16 0, .int .u16 0, .slice none 0 0, .int .i64 0, .bool false, .int .i64 0, .slice none 0 0, .int .i64 0, .int .i64 0, .bool true, .int .u8 2, .int .i64 8, .bool btg, .slice none 0 0, .bool false, .int .i64 len, .slice none 0 0, .slice DA dn dc, .int .i64 act, .int .i64 er, .bool true, .int .i64 e, .bool false, .int .u8 0, .int .i64 0, .slice none 0 0, .int .i64 0, .int .i64 0, .slice none 0 0, .slice IA im ic, .int .i64 0]] w (PendOver btg hb e act xs w) := by
 have hb3 : ∀ a b c, Below w.heap.size w (((w.alloc a).alloc b).alloc c) := fun a b c => (((Below.refl w.heap.size w).alloc (Nat.le_refl _) a).alloc (by simp) b).alloc (by simp; omega) c
 have hwr : IntKind.i64.wrap ((im : Int) + 0) = (im : Int) := by rw [IntWalk.i64_in _ (by omega)]; omega
 have hwr' : IntKind.i64.wrap (im : Int) = (im : Int) := IntWalk.i64_in _ (by omega)
 go_enter Tryz.func17, Tryz.ntmps17
 go_upto_region 1 with fail
 obtain ⟨w0, hw0⟩ : ∃ w0, ((w.alloc (.cells #[.bool true, .int .u8 5, .int .u8 2, .bool true, .int .u8 2, .int .i64 8, .int .i64 0, .int .u8 1, .int .u8 0, .int .u8 1, .bool ptg, .bool false, .int .u8 0, .int .u8 0, .int .u8 0, .int .u16 0, .int .u16 0, .int .u16 0, .slice none 0 0, .int .i64 0, .bool false, .int .i64 0, .slice none 0 0, .int .i64 0, .int .i64 0, .bool true, .int .u8 2, .int .i64 8, .bool btg, .slice none 0 0, .bool false, .int .i64 len, .slice none 0 0, .slice DA dn dc, .int .i64 act, .int .i64 er, .bool true, .int .i64 e, .bool false, .int .u8 0, .int .i64 0, .slice none 0 0, .int .i64 0, .int .i64 0, .slice none 0 0, .slice IA im ic, .int .i64 0] 54)).alloc (.cells #[.int .i64 0, .slice none 0 0, .int .i64 0, .slice none 0 0] 60)).alloc (.cells #[.int .u8 0, .int .u8 0, .bool false, .int .u8 0, .int .i64 0, .int .i64 0, .int .u8 0, .int .u8 0, .int .u8 0, .bool false, .bool false] 30) = w0 := ⟨_, rfl⟩
 have hb0 : Below w.heap.size w w0 := by rw [← hw0]; exact hb3 _ _ _
 have hX0 : w0.heap[w.heap.size]? = some (.cells #[.bool true, .int .u8 5, .int .u8 2, .bool true, .int .u8 2, .int .i64 8, .int .i64 0, .int .u8 1, .int .u8 0, .int .u8 1, .bool ptg, .bool false, .int .u8 0, .int .u8 0, .int .u8 0, .int .u16 0, .int .u16 0, .int .u16 0, .slice none 0 0, .int .i64 0, .bool false, .int .i64 0, .slice none 0 0, .int .i64 0, .int .i64 0, .bool true, .int .u8 2, .int .i64 8, .bool btg, .slice none 0 0, .bool false, .int .i64 len, .slice none 0 0, .slice DA dn dc, .int .i64 act, .int .i64 er, .bool true, .int .i64 e, .bool false, .int .u8 0, .int .i64 0, .slice none 0 0, .int .i64 0, .int .i64 0, .slice none 0 0, .slice IA im ic, .int .i64 0] 54 (0, 0)) := by rw [← hw0]; exact alloc3_0 _ _ _ _
 have hX1 : w0.heap[w.heap.size + 1]? = some (.cells #[.int .i64 0, .slice none 0 0, .int .i64 0, .slice none 0 0] 60 (0, 0)) := by rw [← hw0]; exact alloc3_1 _ _ _ _
 have hX2 : w0.heap[w.heap.size + 1 + 1]? = some (.cells #[.int .u8 0, .int .u8 0, .bool false, .int .u8 0, .int .i64 0, .int .i64 0, .int .u8 0, .int .u8 0, .int .u8 0, .bool false, .bool false] 30 (0, 0)) := by rw [← hw0]; exact alloc3_2 _ _ _ _
 have hX2s : w.heap.size + 1 + 1 < w0.heap.size := (Array.getElem?_eq_some_iff.1 hX2).1
 rw [hw0]
 clear hw0 hb3
 have k0 := cell_of hX0 0
 have k1 := cell_of hX0 1
 have k2 := cell_of hX0 2
 have k3 := cell_of hX0 3
 have k4 := cell_of hX0 4
 have k5 := cell_of hX0 5
 have k6 := cell_of hX0 6
 have k7 := cell_of hX0 7
 have k8 := cell_of hX0 8
 have k9 := cell_of hX0 9
 have k10 := cell_of hX0 10
 have k11 := cell_of hX0 11
 go_upto_region 4 with fail
 obtain ⟨w1, hw1⟩ : ∃ w1, w0.alloc (.cells #[.int .u8 5, .int .u8 2, .bool true, .int .u8 2, .int .i64 8, .int .i64 0, .int .u8 1, .int .u8 0, .int .u8 1, .bool ptg, .bool false] 30) = w1 := ⟨_, rfl⟩
 have hb1 : Below w0.heap.size w0 w1 := by rw [← hw1]; exact (Below.refl _ _).alloc (Nat.le_refl _) _
 have hQ1 : w1.heap[w0.heap.size]? = some (.cells #[.int .u8 5, .int .u8 2, .bool true, .int .u8 2, .int .i64 8, .int .i64 0, .int .u8 1, .int .u8 0, .int .u8 1, .bool ptg, .bool false] 30 (0, 0)) := by rw [← hw1]; exact heap_alloc_new w0 _
 rw [hw1]
 clear hw1 k0 k1 k2 k3 k4 k5 k6 k7 k8 k9 k10 k11
 have hX0 := heap_below hX0 hb1
 have hX1 := heap_below hX1 hb1
 have hX2 := heap_below hX2 hb1
 have k45 := cell_of hX0 45
 have k46 := cell_of hX0 46
 have hs01 : w0.heap.size < w1.heap.size := (Array.getElem?_eq_some_iff.1 hQ1).1
 go_upto_region 5 with fail
 obtain ⟨w2, hw2⟩ : ∃ w2, w1.alloc (.cells #[.int .i64 0, .slice none 0 0, .int .i64 (im : Int), .slice none 0 0] 60) = w2 := ⟨_, rfl⟩
 have hb2 : Below w1.heap.size w1 w2 := by rw [← hw2]; exact (Below.refl _ _).alloc (Nat.le_refl _) _
 have hR2 : w2.heap[w1.heap.size]? = some (.cells #[.int .i64 0, .slice none 0 0, .int .i64 (im : Int), .slice none 0 0] 60 (0, 0)) := by rw [← hw2]; exact heap_alloc_new w1 _
 rw [hw2]
 clear hw2 k45 k46
 have hX0 := heap_below hX0 hb2
 have hX1 := heap_below hX1 hb2
 have hX2 := heap_below hX2 hb2
 have hQ2 := heap_below hQ1 hb2
 have q3 := cell_of hQ2 3
 have hs12 : w1.heap.size < w2.heap.size := (Array.getElem?_eq_some_iff.1 hR2).1
 have hbw := (hb0.trans (hb1.mono hb0.size)).trans (hb2.mono (by omega))
 have k25 := cell_of hX0 25
 have k26 := cell_of hX0 26
 have k27 := cell_of hX0 27
 have k28 := cell_of hX0 28
 have k29 := cell_of hX0 29
 have k30 := cell_of hX0 30
 have k31 := cell_of hX0 31
 have k32 := cell_of hX0 32
 have k33 := cell_of hX0 33
 have k34 := cell_of hX0 34
 have k35 := cell_of hX0 35
 have k36 := cell_of hX0 36
 have k37 := cell_of hX0 37
 go_upto_block 0 with fail
 go_cut [] from 7 to 96 (fun wx => PendMid btg hb e act xs w0.heap.size w1.heap.size w wx)
 case first =>
  have hbe := bend_over true 2 8 btg false len none 0 0 DA dn dc act er e xs w2 (hD.below hbw) hdn
  unfold trV at hbe
  go_wp2_with fail
  refine hbe.mono ?_
  rintro e' w3 ⟨hb3, g, c, rfl, hF, hg3⟩
  clear hbe q3 hD
  obtain ⟨w4, hw4⟩ : ∃ w4, w3.alloc (.cells #[.int .i64 e, .slice (some ⟨g, 0, none⟩) xs.length c, .int .i64 act] 113) = w4 := ⟨_, rfl⟩
  have hbE : Below w3.heap.size w3 w4 := by rw [← hw4]; exact (Below.refl w3.heap.size w3).alloc (Nat.le_refl _) _
  have hE4 : w4.heap[w3.heap.size]? = some (.cells #[.int .i64 e, .slice (some ⟨g, 0, none⟩) xs.length c, .int .i64 act] 113 (0, 0)) := by rw [← hw4]; exact heap_alloc_new w3 _
  have hs3 := hb3.size
  have hX0 := heap_below (heap_below hX0 hb3) hbE
  have hX1 := heap_below (heap_below hX1 hb3) hbE
  have hX2 := heap_below (heap_below hX2 hb3) hbE
  have hQ4 := heap_below (heap_below hQ2 hb3) hbE
  have hR4 := heap_below (heap_below hR2 hb3) hbE
  have hF4 := hF.heap (fun o ho => heap_below ho hbE)
  have hbw3 := (hbw.trans (hb3.mono hbw.size)).trans (hbE.mono (by omega))
  clear k25 k26 k27 k28 k29 k30 k31 k32 k33 k34 k35 k36 k37
  go_upto_region 9 with fail
  have e0 := cell_of hE4 0
  have e1 := cell_of hE4 1
  have e2 := cell_of hE4 2
  go_upto_region 10 with (guard_target =~ wpList _ _ _ (_ :: _) _ _; (refine wpList_store_row rfl (.tmp 6) (.tmp 45) 60 rfl w1.heap.size 0 60 _ _ #[.int .i64 e, .slice (some ⟨g, 0, none⟩) xs.length c, .int .i64 act, .slice none 0 0] rfl rfl hR4 (by kernel_rfl) (by simp) rfl rfl ?_; intro w5 hR5 hW5))
  have hX0 := (hW5.other w.heap.size (by omega)).trans hX0
  have hX1 := (hW5.other (w.heap.size + 1) (by omega)).trans hX1
  have hX2 := (hW5.other (w.heap.size + 1 + 1) (by omega)).trans hX2
  have hQ5 := (hW5.other w0.heap.size (by omega)).trans hQ4
  have hE5 := (hW5.other w3.heap.size (by omega)).trans hE4
  have hsE := hbE.size
  have hbw5 := hbw3.trans (hW5.below (by omega))
  have hF5 := hF4.heap (fun o ho => (hW5.other g (by omega)).trans ho)
  have g0 := (hbw5.cell (World.block_lt_of_cell? _ _ hmb)).trans hmb
  have hlk := hlook w5.drew hbw5.drew
  have htog := toggle_ret true 2 8 btg false len none 0 0 DA dn dc act er true e w5.drew
  unfold trV at htog
  clear hR4 hE4 e0 e1 e2
  have e0 := cell_of hE5 0
  have k25 := cell_of hX0 25
  have k26 := cell_of hX0 26
  have k27 := cell_of hX0 27
  have k28 := cell_of hX0 28
  have k29 := cell_of hX0 29
  have k30 := cell_of hX0 30
  have k31 := cell_of hX0 31
  have k32 := cell_of hX0 32
  have k33 := cell_of hX0 33
  have k34 := cell_of hX0 34
  have k35 := cell_of hX0 35
  have k36 := cell_of hX0 36
  have k37 := cell_of hX0 37
  go_region_with (go_at_call 29; refine htog.mono ?_; rintro e' w6 ⟨rfl, hb6⟩; replace hb6 : Below w5.heap.size w5 w6 := below_undrew hb6; have hQ6 := heap_below hQ5 hb6; have HQ6 := Lib.hid hQ6; have hE6 := heap_below hE5 hb6; have s0 := cell_of hE6 0; have y9 := cell_of hQ6 9; have f9 := frozen_of hQ6 9; have y10 := cell_of hQ6 10; have f10 := frozen_of hQ6 10; have g6 := (hb6.cell (World.block_lt_of_cell? _ _ g0)).trans g0; have hlk6 := hlook w6 (hbw5.trans (hb6.mono hbw5.size)); have hW7 := (Wrote.refl w0.heap.size w6).setCell 9 (.bool btg); have hb7 := (hbw5.trans (hb6.mono hbw5.size)).trans (hW7.below (by omega)); have hlk7 := hlook _ hb7; have s7 := cell_of ((hW7.other w3.heap.size (by omega)).trans hE6) 0; have g7 := (hb7.cell (World.block_lt_of_cell? _ _ hmb)).trans hmb; clear k25 k26 k27 k28 k29 k30 k31 k32 k33 k34 k35 k36 k37 e0 g0 hlk hW7 hQ6 hE6)
  all_goals
   have hP := ((Put1.refl HQ6.out).set 9 (.bool btg)).set 10 (.bool hb)
   have hPh := hP.heap
   have hPw := hP.wrote
   clear hP hlk6 hlk7 s0 s7 y9 f9 y10 f10 g6 g7
   go_wp2_with fail
   go_meet
   generalize (w6.setCell ⟨w0.heap.size, 9, none⟩ (.bool btg)).setCell ⟨w0.heap.size, 10, none⟩ (.bool hb) = w8 at hPh hPw ⊢
   have hs6 := hb6.size
   have hs5 : w5.heap.size = w4.heap.size := hW5.size
   exact ⟨(hbw5.trans (hb6.mono hbw5.size)).trans (hPw.below (by omega)), g, c, hF5.heap (fun o ho => (hPw.other g (by omega)).trans (heap_below ho hb6)), by omega, (hPw.other (w.heap.size + 1) (by omega)).trans (heap_below hX1 hb6), (hPw.other (w.heap.size + 1 + 1) (by omega)).trans (heap_below hX2 hb6), hPh, (hPw.other w1.heap.size (by omega)).trans (heap_below hR5 hb6)⟩
 case rest =>
  obtain ⟨hbw8, g, c, hF8, hg8, hX1, hX2, hQ8, hR8⟩ := hcut
  clear k25 k26 k27 k28 k29 k30 k31 k32 k33 k34 k35 k36 k37 q3 hX0 hQ1 hQ2 hR2 hlook hmb hD
  have a0 := cell_of hR8 0
  have b0 := cell_of hX1 0
  have c0 := frozen_of hX1 0
  have a1 := cell_of hR8 1
  have b1 := cell_of hX1 1
  have c1 := frozen_of hX1 1
  have a2 := cell_of hR8 2
  have b2 := cell_of hX1 2
  have c2 := frozen_of hX1 2
  have a3 := cell_of hR8 3
  have b3 := cell_of hX1 3
  have c3 := frozen_of hX1 3
  have l0 := cell_of hQ8 0
  have m0 := cell_of hX2 0
  have n0 := frozen_of hX2 0
  have l1 := cell_of hQ8 1
  have m1 := cell_of hX2 1
  have n1 := frozen_of hX2 1
  have l2 := cell_of hQ8 2
  have m2 := cell_of hX2 2
  have n2 := frozen_of hX2 2
  have l3 := cell_of hQ8 3
  have m3 := cell_of hX2 3
  have n3 := frozen_of hX2 3
  have l4 := cell_of hQ8 4
  have m4 := cell_of hX2 4
  have n4 := frozen_of hX2 4
  have l5 := cell_of hQ8 5
  have m5 := cell_of hX2 5
  have n5 := frozen_of hX2 5
  have l6 := cell_of hQ8 6
  have m6 := cell_of hX2 6
  have n6 := frozen_of hX2 6
  have l7 := cell_of hQ8 7
  have m7 := cell_of hX2 7
  have n7 := frozen_of hX2 7
  have l8 := cell_of hQ8 8
  have m8 := cell_of hX2 8
  have n8 := frozen_of hX2 8
  have l9 := cell_of hQ8 9
  have m9 := cell_of hX2 9
  have n9 := frozen_of hX2 9
  have l10 := cell_of hQ8 10
  have m10 := cell_of hX2 10
  have n10 := frozen_of hX2 10
  go_upto_region 23 with fail
  go_region
  have hA := put4 hX1 (.int .i64 e) (.slice (some ⟨g, 0, none⟩) xs.length c) (.int .i64 act) (.slice none 0 0)
  generalize ((((wc.setCell ⟨w.heap.size + 1, 0, none⟩ (.int .i64 e)).setCell ⟨w.heap.size + 1, 1, none⟩ (.slice (some ⟨g, 0, none⟩) xs.length c)).setCell ⟨w.heap.size + 1, 2, none⟩ (.int .i64 act)).setCell ⟨w.heap.size + 1, 3, none⟩ (.slice none 0 0)) = w9 at hA ⊢
  have hX29 := (hA.2.other (w.heap.size + 1 + 1) (by omega)).trans hX2
  have hB := put11 hX29 (.int .u8 5) (.int .u8 2) (.bool true) (.int .u8 2) (.int .i64 8) (.int .i64 0) (.int .u8 1) (.int .u8 0) (.int .u8 1) (.bool btg) (.bool hb)
  generalize (((((((((((w9.setCell ⟨w.heap.size + 1 + 1, 0, none⟩ (.int .u8 5)).setCell ⟨w.heap.size + 1 + 1, 1, none⟩ (.int .u8 2)).setCell ⟨w.heap.size + 1 + 1, 2, none⟩ (.bool true)).setCell ⟨w.heap.size + 1 + 1, 3, none⟩ (.int .u8 2)).setCell ⟨w.heap.size + 1 + 1, 4, none⟩ (.int .i64 8)).setCell ⟨w.heap.size + 1 + 1, 5, none⟩ (.int .i64 0)).setCell ⟨w.heap.size + 1 + 1, 6, none⟩ (.int .u8 1)).setCell ⟨w.heap.size + 1 + 1, 7, none⟩ (.int .u8 0)).setCell ⟨w.heap.size + 1 + 1, 8, none⟩ (.int .u8 1)).setCell ⟨w.heap.size + 1 + 1, 9, none⟩ (.bool btg)).setCell ⟨w.heap.size + 1 + 1, 10, none⟩ (.bool hb)) = w10 at hB ⊢
  obtain ⟨hA1, hA2⟩ := hA
  obtain ⟨hB1, hB2⟩ := hB
  have hA10 := (hB2.other (w.heap.size + 1) (by omega)).trans hA1
  go_wp2_with fail
  refine ret_cells2 _ _ _ _ _ _ _ _ _ rfl rfl rfl rfl (heap_drew1 hA10) Tryz.underlying60 rfl (by kernel_rfl) (heap_drew1 hB1) Tryz.underlying30 rfl (by kernel_rfl) rfl ?_
  have hk4 : ∀ i, i ≠ w.heap.size + 1 → i ≠ w.heap.size + 1 + 1 → w10.heap[i]? = wc.heap[i]? := fun i n2 n3 => (hB2.other i n3).trans (hA2.other i n2)
  exact ⟨((hbw8.trans (hA2.below (by omega))).trans (hB2.below (by omega))).drew, g, c, rfl, hF8.heap (fun o ho => (hk4 g (by omega) (by omega)).trans ho), by omega⟩
end Go.Proofs.YtiajboiobjfcoaaGreatDoor
