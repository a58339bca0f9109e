/-
  What is proved here: what a set of endpoints does when it hears a token.
  Conditions: what the set's and the endpoints' cells hold; what is found in the table of endpoints.
-/
import Derived.Test.YthifcblajimppaaDWr
namespace Go.Proofs.Ythifcblajimppaa
open Go.Proofs Go.RowKit
attribute [local go_sem] lt2 lt3 lt4 lt5
def setC (mb : Option Nat) (tok : Int) (e : Option Addr) : Array Value := #[.bool true, .int .u8 0, .map mb, .nilIface, .int .u8 tok, .pointer e]
def EndsAt (mb : Option Nat) (I O : Nat) (w : World) : Prop :=
 (Instr.lookup 92 (.map mb) (.agg #[.int .u8 1, .bool true]) false).run Try.prog w = .ok (.pointer (some ⟨I, 0, none⟩)) w ∧
 (Instr.lookup 92 (.map mb) (.agg #[.int .u8 2, .bool false]) false).run Try.prog w = .ok (.pointer (some ⟨O, 0, none⟩)) w
set_option maxHeartbeats 4000000 in
set_option maxRecDepth 100000 in
theorem tok_out (s : Nat) (mb : Option Nat) (I O : Nat) (n c : Nat) (A : Option Addr) (xs : List Int) (w : World) (hS : w.heap[s]? = some (.cells (setC mb 0 none) 98 (0, 0))) (hlk : ∀ w', Below w.heap.size w w' → EndsAt mb I O w') :
  Calls Try.prog 95 #[.pointer (some ⟨s, 0, none⟩), pkV ⟨1, 0, 2, xs⟩ (.slice A n c)] w fun e w' => e = .returned (.tuple #[pkV pk0 (.slice none 0 0), .bool false]) ∧ Mv (fun i => i = s) w (fun i => i = s) w' ∧ w'.heap[s]? = some (.cells (setC mb 1 (some ⟨O, 0, none⟩)) 98 (0, 0)) := by
 have hb : ∀ o o' o'', Below w.heap.size w (((w.alloc o).alloc o').alloc o'') := fun o o' o'' => (((Below.refl w.heap.size w).alloc (Nat.le_refl _) o).alloc (by simp) o').alloc (by simp; omega) o''
 have hX : ∀ o o' o'', (((w.alloc o).alloc o').alloc o'').heap[s]? = some (.cells (setC mb 0 none) 98 (0, 0)) := fun o o' o'' => heap_below hS (hb o o' o'')
 unfold setC at hX
 have c2 := fun o o' o'' => cell_of (hX o o' o'') 2
 have hl := fun o o' o'' => (hlk _ (hb o o' o'').drew).2
 have HX := Lib.hid hX
 have hsl := (Array.getElem?_eq_some_iff.1 hS).1
 unfold pkV
 dsimp only
 clear hX hS hlk
 go_enter Try.func95, Try.ntmps95
 go_upto_region 3 with fail
 go_region
 obtain ⟨w1, hw1⟩ : ∃ w1, (((w.alloc (.cells #[.int .u8 1, .int .u8 0, .int .u8 2, .int .u16 0, .int .u8 0, .int .u8 0, .bool false, .bool false, .int .u8 0, .slice A n c] 113)).alloc (.cells #[.int .u8 0, .int .u8 0, .int .u8 0, .int .u16 0, .int .u8 0, .int .u8 0, .bool false, .bool false, .int .u8 0, .slice none 0 0] 113)).alloc (.cells #[.int .u8 1, .pointer (some ⟨O, 0, none⟩)] 96)).drew = w1 := ⟨_, rfl⟩
 have hb1 : Below w.heap.size w w1 := by rw [← hw1]; exact (hb _ _ _).drew
 have hX1 : w1.heap[s]? = some (.cells #[.bool true, .int .u8 0, .map mb, .nilIface, .int .u8 0, .pointer none] 98 (0, 0)) := by rw [← hw1]; exact HX.out _ _ _
 have hP1 : w1.heap[w.heap.size]? = some (.cells #[.int .u8 1, .int .u8 0, .int .u8 2, .int .u16 0, .int .u8 0, .int .u8 0, .bool false, .bool false, .int .u8 0, .slice A n c] 113 (0, 0)) := by rw [← hw1]; exact alloc3_0 _ _ _ _
 have hZ1 : w1.heap[w.heap.size + 1]? = some (.cells #[.int .u8 0, .int .u8 0, .int .u8 0, .int .u16 0, .int .u8 0, .int .u8 0, .bool false, .bool false, .int .u8 0, .slice none 0 0] 113 (0, 0)) := by rw [← hw1]; exact alloc3_1 _ _ _ _
 have hT1 : w1.heap[w.heap.size + 1 + 1]? = some (.cells #[.int .u8 1, .pointer (some ⟨O, 0, none⟩)] 96 (0, 0)) := by rw [← hw1]; exact alloc3_2 _ _ _ _
 have hsz1 := (Array.getElem?_eq_some_iff.1 hT1).1
 rw [hw1]
 clear hw1 c2 hl hb
 have p0 := cell_of hP1 0
 have t0 := cell_of hT1 0
 have t1 := cell_of hT1 1
 have x3 := cell_of hX1 3
 have x4 := cell_of hX1 4
 have f4 := frozen_of hX1 4
 have x5 := cell_of hX1 5
 have f5 := frozen_of hX1 5
 go_upto_region 10 with fail
 have hP := ((Put1.refl hX1).set 4 (.int .u8 1)).set 5 (.pointer (some ⟨O, 0, none⟩))
 have hPh := hP.heap
 have hW := hP.wrote
 clear hP p0 t0 t1 x3 x4 f4 x5 f5
 generalize (w1.setCell ⟨s, 4, none⟩ (.int .u8 1)).setCell ⟨s, 5, none⟩ (.pointer (some ⟨O, 0, none⟩)) = w2 at hPh hW ⊢
 have hZ2 := (hW.other (w.heap.size + 1) (by omega)).trans hZ1
 go_wp2_with (guard_target =~ wpList _ _ _ (_ :: _) _ _; (refine wpList_store_row rfl (.tmp 4) (.tmp 50) 113 rfl (w.heap.size + 1) 0 113 _ _ #[.int .u8 0, .int .u8 0, .int .u8 0, .int .u16 0, .int .u8 0, .int .u8 0, .bool false, .bool false, .int .u8 0, .slice none 0 0] rfl rfl hZ2 (by kernel_rfl) (by simp) rfl rfl ?_; intro w3 hZ3 hW3))
 refine ret_cellT _ _ _ _ _ rfl rfl rfl hZ3 Try.underlying113 rfl (by kernel_rfl) rfl ?_
 exact ⟨rfl, ⟨hW3.os.trans (hW.os.trans hb1.os), hW3.tape.trans (hW.tape.trans hb1.tape), hW3.output.trans (hW.output.trans hb1.output), by rw [hW3.size, hW.size]; exact hb1.size, fun i hi hs => (hW3.other i (by omega)).trans ((hW.other i hs).trans (hb1.block i hi)), fun _ _ h => h⟩, (hW3.other s (by omega)).trans hPh⟩
def TokNak (w : World) (e : Ending) (w' : World) : Prop :=
 e = .returned (.tuple #[pkV ⟨10, 0, 0, []⟩ (.slice none 0 0), .bool true]) ∧ Below w.heap.size w w'
set_option maxHeartbeats 4000000 in
set_option maxRecDepth 100000 in
theorem tok_nak (s : Nat) (mb : Option Nat) (I O : Nat) (n c : Nat) (A : Option Addr) (xs : List Int) (Q : Option Addr) (qc : Nat) (room : Int) (T : Option Addr) (tn tc : Nat) (num : Int) (inn : Bool) (mx : Int) (tg : Bool) (w : World) (hS : w.heap[s]? = some (.cells (setC mb 0 none) 98 (0, 0))) (hlk : ∀ w', Below w.heap.size w w' → EndsAt mb I O w')
    (hI : w.heap[I]? = some (.cells (epC Q 0 qc room T tn tc num inn 2 mx tg false) 91 (0, 0))) :
    Calls Try.prog 95 #[.pointer (some ⟨s, 0, none⟩), pkV ⟨9, 0, 1, xs⟩ (.slice A n c)] w (TokNak w) := by
  have hb : ∀ o o' o'', Below w.heap.size w (((w.alloc o).alloc o').alloc o'') := fun o o' o'' => (((Below.refl w.heap.size w).alloc (Nat.le_refl _) o).alloc (by simp) o').alloc (by simp; omega) o''
  have hX : ∀ o o' o'', (((w.alloc o).alloc o').alloc o'').heap[s]? = some (.cells (setC mb 0 none) 98 (0, 0)) := fun o o' o'' => heap_below hS (hb o o' o'')
  unfold setC at hX
  have c2 := fun o o' o'' => cell_of (hX o o' o'') 2
  have hl := fun o o' o'' => (hlk _ (hb o o' o'').drew).1
  have HX := Lib.hid hX
  have hsl := (Array.getElem?_eq_some_iff.1 hS).1
  unfold pkV
  dsimp only
  clear hX hS hlk
  go_enter Try.func95, Try.ntmps95
  go_upto_region 3 with fail
  go_region
  obtain ⟨w1, hw1⟩ : ∃ w1, (((w.alloc (.cells #[.int .u8 9, .int .u8 0, .int .u8 1, .int .u16 0, .int .u8 0, .int .u8 0, .bool false, .bool false, .int .u8 0, .slice A n c] 113)).alloc (.cells #[.int .u8 0, .int .u8 0, .int .u8 0, .int .u16 0, .int .u8 0, .int .u8 0, .bool false, .bool false, .int .u8 0, .slice none 0 0] 113)).alloc (.cells #[.int .u8 9, .pointer (some ⟨I, 0, none⟩)] 96)).drew = w1 := ⟨_, rfl⟩
  have hb1 : Below w.heap.size w w1 := by rw [← hw1]; exact (hb _ _ _).drew
  have hX1 : w1.heap[s]? = some (.cells #[.bool true, .int .u8 0, .map mb, .nilIface, .int .u8 0, .pointer none] 98 (0, 0)) := by rw [← hw1]; exact HX.out _ _ _
  have hP1 : w1.heap[w.heap.size]? = some (.cells #[.int .u8 9, .int .u8 0, .int .u8 1, .int .u16 0, .int .u8 0, .int .u8 0, .bool false, .bool false, .int .u8 0, .slice A n c] 113 (0, 0)) := by rw [← hw1]; exact alloc3_0 _ _ _ _
  have hZ1 : w1.heap[w.heap.size + 1]? = some (.cells #[.int .u8 0, .int .u8 0, .int .u8 0, .int .u16 0, .int .u8 0, .int .u8 0, .bool false, .bool false, .int .u8 0, .slice none 0 0] 113 (0, 0)) := by rw [← hw1]; exact alloc3_1 _ _ _ _
  have hT1 : w1.heap[w.heap.size + 1 + 1]? = some (.cells #[.int .u8 9, .pointer (some ⟨I, 0, none⟩)] 96 (0, 0)) := by rw [← hw1]; exact alloc3_2 _ _ _ _
  have hsz1 := (Array.getElem?_eq_some_iff.1 hT1).1
  rw [hw1]
  clear hw1 c2 hl hb
  have p0 := cell_of hP1 0
  have t0 := cell_of hT1 0
  have t1 := cell_of hT1 1
  have x3 := cell_of hX1 3
  have x4 := cell_of hX1 4
  have f4 := frozen_of hX1 4
  have x5 := cell_of hX1 5
  have f5 := frozen_of hX1 5
  have hI1 := heap_below hI hb1
  have hIw := (Array.getElem?_eq_some_iff.1 hI).1
  have hbz := fun o => (Below.refl w1.heap.size w1).alloc (Nat.le_refl _) o
  have hrd := fun o => read_nak I Q qc room T tn tc num inn mx tg (w1.alloc o) (heap_below hI1 (hbz o))
  have p0' := fun o => (World.cell?_alloc_lt _ o _ (World.block_lt_of_cell? _ _ p0)).trans p0
  have t0' := fun o => (World.cell?_alloc_lt _ o _ (World.block_lt_of_cell? _ _ t0)).trans t0
  have t1' := fun o => (World.cell?_alloc_lt _ o _ (World.block_lt_of_cell? _ _ t1)).trans t1
  clear hI
  go_wp2_with fail
  refine (hrd _).mono ?_
  rintro e w2 ⟨rfl, hb2⟩
  clear hrd
  have hbA := hbz (.cells #[.int .u8 0, .int .u8 0, .int .u8 0, .int .u16 0, .int .u8 0, .int .u8 0, .bool false, .bool false, .int .u8 0, .slice none 0 0] 113)
  have hA2 := heap_below (heap_alloc_new w1 (.cells #[.int .u8 0, .int .u8 0, .int .u8 0, .int .u16 0, .int .u8 0, .int .u8 0, .bool false, .bool false, .int .u8 0, .slice none 0 0] 113)) hb2
  have hT2 := heap_below (heap_below hT1 hbA) hb2
  have hI2 := heap_below (heap_below hI1 hbA) hb2
  have hZ2 := heap_below (heap_below hZ1 hbA) hb2
  have hX2 := heap_below (heap_below hX1 hbA) hb2
  have hs2 := hb2.size
  have hsA : w1.heap.size + 1 ≤ w2.heap.size := by simpa using hs2
  have hIl := (Array.getElem?_eq_some_iff.1 hI1).1
  have hb12 : Below w1.heap.size w1 w2 := hbA.trans (hb2.mono (by simp))
  clear p0 p0' t0 t0' t1 t1' x3 x4 f4 x5 f5
  unfold pkV
  dsimp only
  go_upto_region 17 with (guard_target =~ wpList _ _ _ (_ :: _) _ _; first
    | (refine wpList_store_row rfl (.tmp 7) (.tmp 58) 113 rfl w1.heap.size 0 113 _ _ #[.int .u8 10, .int .u8 0, .int .u8 0, .int .u16 0, .int .u8 0, .int .u8 0, .bool false, .bool false, .int .u8 0, .slice none 0 0] rfl rfl hA2 (by kernel_rfl) (by simp) rfl rfl ?_
       intro w3 hA3 hW3
       have hT3 := (hW3.other (w.heap.size + 1 + 1) (by omega)).trans hT2
       have hI3 := (hW3.other I (by omega)).trans hI2
       have hX3 := (hW3.other s (by omega)).trans hX2
       have hZ3 := (hW3.other (w.heap.size + 1) (by omega)).trans hZ2
       have t1 := cell_of hT3 1
       have i5 : w3.cell? ⟨I, 5, none⟩ = some (.int .u8 2) := cell_of hI3 5))
  have a0 := cell_of hA3 0
  have t0 := cell_of hT3 0
  go_upto_region 19 with fail
  clear a0 t0 t1 i5
  have hA4 := hA3
  have hZ4 := hZ3
  go_wp2_with (guard_target =~ wpList _ _ _ (_ :: _) _ _; first
    | refine wpList_load_row rfl (.tmp 7) 113 rfl w1.heap.size 113 _ _ rfl hA4 Try.underlying113 rfl (by kernel_rfl) ?_
    | (refine wpList_store_row rfl (.tmp 4) (.tmp 94) 113 rfl (w.heap.size + 1) 0 113 _ _ #[.int .u8 10, .int .u8 0, .int .u8 0, .int .u16 0, .int .u8 0, .int .u8 0, .bool false, .bool false, .int .u8 0, .slice none 0 0] rfl rfl hZ4 (by kernel_rfl) (by simp) rfl rfl ?_; intro w5 hZ5 hW5))
  refine ret_cellT _ _ _ _ _ rfl rfl rfl hZ5 Try.underlying113 rfl (by kernel_rfl) rfl ?_
  exact ⟨rfl, (hb1.trans (hb12.mono hb1.size)).trans ((hW3.below (by omega)).trans (hW5.below (by omega)))⟩
def TokData (s : Nat) (mb : Option Nat) (I : Nat) (tg : Bool) (xs : List Int) (w : World) (e : Ending) (w' : World) : Prop :=
 Mv (fun i => i = s) w (fun i => i = s) w' ∧ w'.heap[s]? = some (.cells (setC mb 9 (some ⟨I, 0, none⟩)) 98 (0, 0)) ∧
  ∃ g c, e = .returned (.tuple #[pkV ⟨if tg then 11 else 3, 0, 0, xs⟩ (.slice (some ⟨g, 0, none⟩) xs.length c), .bool true]) ∧ F8 w' g xs.length c xs ∧ w.heap.size ≤ g
set_option maxHeartbeats 8000000 in
set_option maxRecDepth 100000 in
theorem tok_data (s : Nat) (mb : Option Nat) (I O : Nat) (n c : Nat) (A : Option Addr) (xs : List Int) (a : Addr) (qn qc : Nat) (room : Int) (T : Option Addr) (tn tc : Nat) (num : Int) (inn : Bool) (mx : Int) (tg : Bool) (A1 : Option Addr) (n1 c1 : Nat) (ys : List Int) (w : World) (hS : w.heap[s]? = some (.cells (setC mb 0 none) 98 (0, 0))) (hlk : ∀ w', Below w.heap.size w w' → EndsAt mb I O w')
    (hI : w.heap[I]? = some (.cells (epC (some a) qn qc room T tn tc num inn 2 mx tg false) 91 (0, 0))) (hq : 0 < qn) (hA1 : w.cell? a = some (.slice A1 n1 c1)) (hU : U8 w A1 n1 c1 ys) (hn : n1 ≤ 1024) :
    Calls Try.prog 95 #[.pointer (some ⟨s, 0, none⟩), pkV ⟨9, 0, 1, xs⟩ (.slice A n c)] w (TokData s mb I tg ys w) := by
  have hb : ∀ o o' o'', Below w.heap.size w (((w.alloc o).alloc o').alloc o'') := fun o o' o'' => (((Below.refl w.heap.size w).alloc (Nat.le_refl _) o).alloc (by simp) o').alloc (by simp; omega) o''
  have hX : ∀ o o' o'', (((w.alloc o).alloc o').alloc o'').heap[s]? = some (.cells (setC mb 0 none) 98 (0, 0)) := fun o o' o'' => heap_below hS (hb o o' o'')
  unfold setC at hX
  have c2 := fun o o' o'' => cell_of (hX o o' o'') 2
  have hl := fun o o' o'' => (hlk _ (hb o o' o'').drew).1
  have HX := Lib.hid hX
  have hsl := (Array.getElem?_eq_some_iff.1 hS).1
  unfold pkV
  dsimp only
  clear hX hS hlk
  go_enter Try.func95, Try.ntmps95
  go_upto_region 3 with fail
  go_region
  obtain ⟨w1, hw1⟩ : ∃ w1, (((w.alloc (.cells #[.int .u8 9, .int .u8 0, .int .u8 1, .int .u16 0, .int .u8 0, .int .u8 0, .bool false, .bool false, .int .u8 0, .slice A n c] 113)).alloc (.cells #[.int .u8 0, .int .u8 0, .int .u8 0, .int .u16 0, .int .u8 0, .int .u8 0, .bool false, .bool false, .int .u8 0, .slice none 0 0] 113)).alloc (.cells #[.int .u8 9, .pointer (some ⟨I, 0, none⟩)] 96)).drew = w1 := ⟨_, rfl⟩
  have hb1 : Below w.heap.size w w1 := by rw [← hw1]; exact (hb _ _ _).drew
  have hX1 : w1.heap[s]? = some (.cells #[.bool true, .int .u8 0, .map mb, .nilIface, .int .u8 0, .pointer none] 98 (0, 0)) := by rw [← hw1]; exact HX.out _ _ _
  have hP1 : w1.heap[w.heap.size]? = some (.cells #[.int .u8 9, .int .u8 0, .int .u8 1, .int .u16 0, .int .u8 0, .int .u8 0, .bool false, .bool false, .int .u8 0, .slice A n c] 113 (0, 0)) := by rw [← hw1]; exact alloc3_0 _ _ _ _
  have hZ1 : w1.heap[w.heap.size + 1]? = some (.cells #[.int .u8 0, .int .u8 0, .int .u8 0, .int .u16 0, .int .u8 0, .int .u8 0, .bool false, .bool false, .int .u8 0, .slice none 0 0] 113 (0, 0)) := by rw [← hw1]; exact alloc3_1 _ _ _ _
  have hT1 : w1.heap[w.heap.size + 1 + 1]? = some (.cells #[.int .u8 9, .pointer (some ⟨I, 0, none⟩)] 96 (0, 0)) := by rw [← hw1]; exact alloc3_2 _ _ _ _
  have hsz1 := (Array.getElem?_eq_some_iff.1 hT1).1
  rw [hw1]
  clear hw1 c2 hl hb
  have p0 := cell_of hP1 0
  have t0 := cell_of hT1 0
  have t1 := cell_of hT1 1
  have x3 := cell_of hX1 3
  have x4 := cell_of hX1 4
  have f4 := frozen_of hX1 4
  have x5 := cell_of hX1 5
  have f5 := frozen_of hX1 5
  have hI1 := heap_below hI hb1
  have hIw := (Array.getElem?_eq_some_iff.1 hI).1
  have hbz := fun o => (Below.refl w1.heap.size w1).alloc (Nat.le_refl _) o
  have hrd := fun o => read_data I a qn qc room T tn tc num inn mx tg A1 n1 c1 ys (w1.alloc o) (heap_below hI1 (hbz o)) hq ((World.cell?_alloc_lt _ o _ (World.block_lt_of_cell? _ _ ((hb1.cell (World.block_lt_of_cell? _ _ hA1)).trans hA1))).trans ((hb1.cell (World.block_lt_of_cell? _ _ hA1)).trans hA1)) ((hU.below hb1).alloc o) hn
  have p0' := fun o => (World.cell?_alloc_lt _ o _ (World.block_lt_of_cell? _ _ p0)).trans p0
  have t0' := fun o => (World.cell?_alloc_lt _ o _ (World.block_lt_of_cell? _ _ t0)).trans t0
  have t1' := fun o => (World.cell?_alloc_lt _ o _ (World.block_lt_of_cell? _ _ t1)).trans t1
  clear hI hA1 hU
  cases tg
  case false =>
    go_wp2_with fail
    refine (hrd _).mono ?_
    rintro e w2 ⟨hb2, g, c', rfl, hF, hg⟩
    clear hrd
    simp only [Bool.false_eq_true, if_false]
    have hbA := hbz (.cells #[.int .u8 0, .int .u8 0, .int .u8 0, .int .u16 0, .int .u8 0, .int .u8 0, .bool false, .bool false, .int .u8 0, .slice none 0 0] 113)
    have hA2 := heap_below (heap_alloc_new w1 (.cells #[.int .u8 0, .int .u8 0, .int .u8 0, .int .u16 0, .int .u8 0, .int .u8 0, .bool false, .bool false, .int .u8 0, .slice none 0 0] 113)) hb2
    have hT2 := heap_below (heap_below hT1 hbA) hb2
    have hI2 := heap_below (heap_below hI1 hbA) hb2
    have hZ2 := heap_below (heap_below hZ1 hbA) hb2
    have hX2 := heap_below (heap_below hX1 hbA) hb2
    have hs2 := hb2.size
    have hsA : w1.heap.size + 1 ≤ w2.heap.size := by simpa using hs2
    have hIl := (Array.getElem?_eq_some_iff.1 hI1).1
    have hb12 : Below w1.heap.size w1 w2 := hbA.trans (hb2.mono (by simp))
    clear p0 p0' t0 t0' t1 t1' x3 x4 f4 x5 f5
    unfold pkV
    dsimp only
    go_upto_region 17 with (guard_target =~ wpList _ _ _ (_ :: _) _ _; first
      | (refine wpList_store_row rfl (.tmp 7) (.tmp 58) 113 rfl w1.heap.size 0 113 _ _ #[.int .u8 3, .int .u8 0, .int .u8 0, .int .u16 0, .int .u8 0, .int .u8 0, .bool false, .bool false, .int .u8 0, .slice (some ⟨g, 0, none⟩) ys.length c'] rfl rfl hA2 (by kernel_rfl) (by simp) rfl rfl ?_
         intro w3 hA3 hW3
         have hT3 := (hW3.other (w.heap.size + 1 + 1) (by omega)).trans hT2
         have hI3 := (hW3.other I (by omega)).trans hI2
         have hX3 := (hW3.other s (by omega)).trans hX2
         have hZ3 := (hW3.other (w.heap.size + 1) (by omega)).trans hZ2
         have t1 := cell_of hT3 1
         have i5 : w3.cell? ⟨I, 5, none⟩ = some (.int .u8 2) := cell_of hI3 5))
    have a0 := cell_of hA3 0
    have t0 := cell_of hT3 0
    have x4 := cell_of hX3 4
    have f4 := frozen_of hX3 4
    have x5 := cell_of hX3 5
    have f5 := frozen_of hX3 5
    go_upto_region 19 with fail
    have hP := ((Put1.refl hX3).set 4 (.int .u8 9)).set 5 (.pointer (some ⟨I, 0, none⟩))
    have hPh := hP.heap
    have hW := hP.wrote
    clear hP a0 t0 t1 i5 x4 f4 x5 f5
    generalize (w3.setCell ⟨s, 4, none⟩ (.int .u8 9)).setCell ⟨s, 5, none⟩ (.pointer (some ⟨I, 0, none⟩)) = w4 at hPh hW ⊢
    have hA4 := (hW.other w1.heap.size (by omega)).trans hA3
    have hZ4 := (hW.other (w.heap.size + 1) (by omega)).trans hZ3
    go_wp2_with (guard_target =~ wpList _ _ _ (_ :: _) _ _; first
      | refine wpList_load_row rfl (.tmp 7) 113 rfl w1.heap.size 113 _ _ rfl hA4 Try.underlying113 rfl (by kernel_rfl) ?_
      | (refine wpList_store_row rfl (.tmp 4) (.tmp 94) 113 rfl (w.heap.size + 1) 0 113 _ _ #[.int .u8 3, .int .u8 0, .int .u8 0, .int .u16 0, .int .u8 0, .int .u8 0, .bool false, .bool false, .int .u8 0, .slice (some ⟨g, 0, none⟩) ys.length c'] rfl rfl hZ4 (by kernel_rfl) (by simp) rfl rfl ?_; intro w5 hZ5 hW5))
    refine ret_cellT _ _ _ _ _ rfl rfl rfl hZ5 Try.underlying113 rfl (by kernel_rfl) rfl ?_
    have hgA : w1.heap.size < g := by simp at hg; omega
    exact ⟨⟨hW5.os.trans (hW.os.trans (hW3.os.trans (hb12.os.trans hb1.os))), hW5.tape.trans (hW.tape.trans (hW3.tape.trans (hb12.tape.trans hb1.tape))), hW5.output.trans (hW.output.trans (hW3.output.trans (hb12.output.trans hb1.output))), by rw [hW5.size, hW.size, hW3.size]; exact Nat.le_trans hb1.size hb12.size,
      fun i hi hs => (hW5.other i (by omega)).trans ((hW.other i hs).trans ((hW3.other i (by omega)).trans ((hb12.block i (by omega)).trans (hb1.block i hi)))), fun _ _ h => h⟩, (hW5.other s (by omega)).trans hPh, g, c', rfl,
      hF.heap (fun o ho => (hW5.other g (by omega)).trans ((hW.other g (by omega)).trans ((hW3.other g (by omega)).trans ho))), by omega⟩
  case true =>
    go_wp2_with fail
    refine (hrd _).mono ?_
    rintro e w2 ⟨hb2, g, c', rfl, hF, hg⟩
    clear hrd
    simp only [if_true]
    have hbA := hbz (.cells #[.int .u8 0, .int .u8 0, .int .u8 0, .int .u16 0, .int .u8 0, .int .u8 0, .bool false, .bool false, .int .u8 0, .slice none 0 0] 113)
    have hA2 := heap_below (heap_alloc_new w1 (.cells #[.int .u8 0, .int .u8 0, .int .u8 0, .int .u16 0, .int .u8 0, .int .u8 0, .bool false, .bool false, .int .u8 0, .slice none 0 0] 113)) hb2
    have hT2 := heap_below (heap_below hT1 hbA) hb2
    have hI2 := heap_below (heap_below hI1 hbA) hb2
    have hZ2 := heap_below (heap_below hZ1 hbA) hb2
    have hX2 := heap_below (heap_below hX1 hbA) hb2
    have hs2 := hb2.size
    have hsA : w1.heap.size + 1 ≤ w2.heap.size := by simpa using hs2
    have hIl := (Array.getElem?_eq_some_iff.1 hI1).1
    have hb12 : Below w1.heap.size w1 w2 := hbA.trans (hb2.mono (by simp))
    clear p0 p0' t0 t0' t1 t1' x3 x4 f4 x5 f5
    unfold pkV
    dsimp only
    go_upto_region 17 with (guard_target =~ wpList _ _ _ (_ :: _) _ _; first
      | (refine wpList_store_row rfl (.tmp 7) (.tmp 58) 113 rfl w1.heap.size 0 113 _ _ #[.int .u8 11, .int .u8 0, .int .u8 0, .int .u16 0, .int .u8 0, .int .u8 0, .bool false, .bool false, .int .u8 0, .slice (some ⟨g, 0, none⟩) ys.length c'] rfl rfl hA2 (by kernel_rfl) (by simp) rfl rfl ?_
         intro w3 hA3 hW3
         have hT3 := (hW3.other (w.heap.size + 1 + 1) (by omega)).trans hT2
         have hI3 := (hW3.other I (by omega)).trans hI2
         have hX3 := (hW3.other s (by omega)).trans hX2
         have hZ3 := (hW3.other (w.heap.size + 1) (by omega)).trans hZ2
         have t1 := cell_of hT3 1
         have i5 : w3.cell? ⟨I, 5, none⟩ = some (.int .u8 2) := cell_of hI3 5))
    have a0 := cell_of hA3 0
    have t0 := cell_of hT3 0
    have x4 := cell_of hX3 4
    have f4 := frozen_of hX3 4
    have x5 := cell_of hX3 5
    have f5 := frozen_of hX3 5
    go_upto_region 19 with fail
    have hP := ((Put1.refl hX3).set 4 (.int .u8 9)).set 5 (.pointer (some ⟨I, 0, none⟩))
    have hPh := hP.heap
    have hW := hP.wrote
    clear hP a0 t0 t1 i5 x4 f4 x5 f5
    generalize (w3.setCell ⟨s, 4, none⟩ (.int .u8 9)).setCell ⟨s, 5, none⟩ (.pointer (some ⟨I, 0, none⟩)) = w4 at hPh hW ⊢
    have hA4 := (hW.other w1.heap.size (by omega)).trans hA3
    have hZ4 := (hW.other (w.heap.size + 1) (by omega)).trans hZ3
    go_wp2_with (guard_target =~ wpList _ _ _ (_ :: _) _ _; first
      | refine wpList_load_row rfl (.tmp 7) 113 rfl w1.heap.size 113 _ _ rfl hA4 Try.underlying113 rfl (by kernel_rfl) ?_
      | (refine wpList_store_row rfl (.tmp 4) (.tmp 94) 113 rfl (w.heap.size + 1) 0 113 _ _ #[.int .u8 11, .int .u8 0, .int .u8 0, .int .u16 0, .int .u8 0, .int .u8 0, .bool false, .bool false, .int .u8 0, .slice (some ⟨g, 0, none⟩) ys.length c'] rfl rfl hZ4 (by kernel_rfl) (by simp) rfl rfl ?_; intro w5 hZ5 hW5))
    refine ret_cellT _ _ _ _ _ rfl rfl rfl hZ5 Try.underlying113 rfl (by kernel_rfl) rfl ?_
    have hgA : w1.heap.size < g := by simp at hg; omega
    exact ⟨⟨hW5.os.trans (hW.os.trans (hW3.os.trans (hb12.os.trans hb1.os))), hW5.tape.trans (hW.tape.trans (hW3.tape.trans (hb12.tape.trans hb1.tape))), hW5.output.trans (hW.output.trans (hW3.output.trans (hb12.output.trans hb1.output))), by rw [hW5.size, hW.size, hW3.size]; exact Nat.le_trans hb1.size hb12.size,
      fun i hi hs => (hW5.other i (by omega)).trans ((hW.other i hs).trans ((hW3.other i (by omega)).trans ((hb12.block i (by omega)).trans (hb1.block i hi)))), fun _ _ h => h⟩, (hW5.other s (by omega)).trans hPh, g, c', rfl,
      hF.heap (fun o ho => (hW5.other g (by omega)).trans ((hW.other g (by omega)).trans ((hW3.other g (by omega)).trans ho))), by omega⟩
end Go.Proofs.Ythifcblajimppaa
