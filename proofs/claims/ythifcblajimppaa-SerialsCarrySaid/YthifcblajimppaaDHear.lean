/-
  What is proved here: what a set of endpoints does when it hears a packet.
  Conditions: what the set's and the endpoints' cells hold.
-/
import Derived.Test.YthifcblajimppaaDTok
import Derived.Test.YthifcblajimppaaISpeak
namespace Go.Proofs.Ythifcblajimppaa
open Go.Proofs Go.RowKit
attribute [local go_sem] lt2 lt3 lt4 lt5
set_option maxHeartbeats 2000000 in
theorem none_ret (s : Nat) (w : World) (h : w.cell? ⟨s, 0, none⟩ = some (.bool true)) :
  Calls Try.prog 31 #[.pointer (some ⟨s, 0, none⟩)] w fun e w' => e = .returned (.bool false) ∧ w' = w := by
 go_enter Try.func31, Try.ntmps31
 go_wp2_with fail
 go_ret
 exact ⟨rfl, rfl⟩
def PreT (s : Nat) (mb : Option Nat) (w w1 : World) : Prop := Mv (fun i => i = s) w (fun i => i = s) w1 ∧ w1.heap[s]? = some (.cells (setC mb 0 none) 98 (0, 0))
def HearT (s : Nat) (mb : Option Nat) (w : World) (T : Pk → Value → Bool → World → World → Prop) (e : Ending) (w' : World) : Prop :=
 ∃ w1 w2 g q D b, PreT s mb w w1 ∧ T q D b w1 w2 ∧ e = .returned (.tuple #[pkV q D, .bool b]) ∧ Wrote g w2 w' ∧ w.heap.size ≤ g ∧ g < w1.heap.size
set_option maxHeartbeats 8000000 in
set_option maxRecDepth 100000 in
theorem hear_tok (s : Nat) (mb : Option Nat) (tok : Int) (ex : Option Addr) (p : Pk) (hp : p.pid = 1 ∨ p.pid = 9) (ha : p.addr = 0) (A : Option Addr) (n c : Nat) (w : World) (hS : w.heap[s]? = some (.cells (setC mb tok ex) 98 (0, 0)))
  (hck : CkOk p) (hU : U8 w A n c p.data) (T : Pk → Value → Bool → World → World → Prop) (htok : ∀ w1, PreT s mb w w1 → Calls Try.prog 95 #[.pointer (some ⟨s, 0, none⟩), pkV p (.slice A n c)] w1 fun e w' => ∃ q D b, e = .returned (.tuple #[pkV q D, .bool b]) ∧ T q D b w1 w' ∧ (∀ i, w.heap.size ≤ i → i < w1.heap.size → w'.heap[i]? = w1.heap[i]?) ∧ ∃ B m k, D = .slice B m k) :
  Calls Try.prog 94 #[.pointer (some ⟨s, 0, none⟩), pkV p (.slice A n c)] w (HearT s mb w T) := by
 have hb : ∀ o o', Below w.heap.size w ((w.alloc o).alloc o') := fun o o' => ((Below.refl w.heap.size w).alloc (Nat.le_refl _) o).alloc (by simp) o'
 have hck0 := fun w h => hck w A n c h
 have hsl := (Array.getElem?_eq_some_iff.1 hS).1
 obtain ⟨pid, ad, en, xs⟩ := p
 dsimp only at hp ha hU
 subst ha
 have HTOK := Lib.hid htok
 clear htok
 unfold pkV at hck0 ⊢
 dsimp only at hck0 ⊢
 go_enter Try.func94, Try.ntmps94
 go_upto_region 1 with fail
 obtain ⟨w0, hw0⟩ : ∃ w0, (w.alloc (.cells #[.int .u8 pid, .int .u8 0, .int .u8 en, .int .u16 0, .int .u8 0, .int .u8 0, .bool false, .bool false, .int .u8 0, .slice A n c] 113)).alloc (.cells #[.int .u8 0, .int .u8 0, .int .u8 0, .int .u16 0, .int .u8 0, .int .u8 0, .bool false, .bool false, .int .u8 0, .slice none 0 0] 113) = w0 := ⟨_, rfl⟩
 have hb0 : Below w.heap.size w w0 := by rw [← hw0]; exact hb _ _
 have hP0 : w0.heap[w.heap.size]? = some (.cells #[.int .u8 pid, .int .u8 0, .int .u8 en, .int .u16 0, .int .u8 0, .int .u8 0, .bool false, .bool false, .int .u8 0, .slice A n c] 113 (0, 0)) := by rw [← hw0]; exact alloc2_0 _ _ _
 have hZ0 : w0.heap[w.heap.size + 1]? = some (.cells #[.int .u8 0, .int .u8 0, .int .u8 0, .int .u16 0, .int .u8 0, .int .u8 0, .bool false, .bool false, .int .u8 0, .slice none 0 0] 113 (0, 0)) := by rw [← hw0]; exact alloc2_1 _ _ _
 have hS0 := heap_below hS hb0
 have hz0l := (Array.getElem?_eq_some_iff.1 hZ0).1
 rw [hw0]
 clear hw0 hb
 go_wp2_with fail
 refine (none_ret s w0 (cell_of hS0 0)).mono ?_
 rintro e w0' ⟨rfl, rfl⟩
 have p0 := cell_of hP0 0
 have p1 := cell_of hP0 1
 have p2 := cell_of hP0 2
 have p3 := cell_of hP0 3
 have p4 := cell_of hP0 4
 have p5 := cell_of hP0 5
 have p6 := cell_of hP0 6
 have p7 := cell_of hP0 7
 have p8 := cell_of hP0 8
 have p9 := cell_of hP0 9
 go_wp2_with fail
 refine (hck0 _ (hU.below hb0)).mono ?_
 rintro e w1 ⟨rfl, hb1⟩
 have hb1 := hb0.trans (hb1.mono hb0.size)
 have hS1 := heap_below hS hb1
 have hP1 := heap_below hP0 (by assumption)
 have hZ1 := heap_below hZ0 (by assumption)
 clear p0 p1 p2 p3 p4 p5 p6 p7 p8 p9
 unfold setC at hS1
 have x4 := cell_of hS1 4
 have x5 := cell_of hS1 5
 go_upto_region 4 with fail
 clear x4 x5
 obtain ⟨w2, hw2⟩ : ∃ w2, w1.alloc (.cells #[.int .u8 tok, .pointer ex] 96) = w2 := ⟨_, rfl⟩
 have hbA : Below w1.heap.size w1 w2 := by rw [← hw2]; exact (Below.refl w1.heap.size w1).alloc (Nat.le_refl _) _
 have hT2 : w2.heap[w1.heap.size]? = some (.cells #[.int .u8 tok, .pointer ex] 96 (0, 0)) := by rw [← hw2]; exact heap_alloc_new _ _
 rw [hw2]
 clear hw2
 have hS2 := heap_below hS1 hbA
 have hP2 := heap_below hP1 hbA
 have hZ2 := heap_below hZ1 hbA
 have hb2 := hb1.trans (hbA.mono hb1.size)
 have x4 := cell_of hS2 4
 have f4 := frozen_of hS2 4
 have x5 := cell_of hS2 5
 have f5 := frozen_of hS2 5
 go_upto_region 5 with fail
 have hQ := ((Put1.refl hS2).set 4 (.int .u8 0)).set 5 (.pointer none)
 have hS3 := hQ.heap
 have hW3 := hQ.wrote
 clear hQ x4 f4 x5 f5
 generalize (w2.setCell ⟨s, 4, none⟩ (.int .u8 0)).setCell ⟨s, 5, none⟩ (.pointer none) = w3 at hS3 hW3 ⊢
 have hP3 := (hW3.other w.heap.size (by omega)).trans hP2
 have hZ3 := (hW3.other (w.heap.size + 1) (by omega)).trans hZ2
 have p0 := cell_of hP3 0
 have p1 := cell_of hP3 1
 have x1 : w3.cell? ⟨s, 1, none⟩ = some (.int .u8 0) := cell_of hS3 1
 rcases hp with rfl | rfl
 all_goals
  go_upto_region 9 with fail
  go_region
  clear p0 p1 x1
  obtain ⟨w4, hw4⟩ : ∃ w4, w3.drew = w4 := ⟨_, rfl⟩
  have hbd : Below w3.heap.size w3 w4 := by rw [← hw4]; exact (Below.refl w3.heap.size w3).drew
  rw [hw4]
  clear hw4
  have hP4 := heap_below hP3 hbd
  have hZ4 := heap_below hZ3 hbd
  have hS4 := heap_below hS3 hbd
  have hsz4 : w.heap.size + 1 < w4.heap.size := (Array.getElem?_eq_some_iff.1 hZ4).1
  have hPre : PreT s mb w w4 := ⟨⟨hbd.os.trans (hW3.os.trans hb2.os), hbd.tape.trans (hW3.tape.trans hb2.tape), hbd.output.trans (hW3.output.trans hb2.output), by have := hbd.size; have := hb2.size; have := hW3.size; omega, fun i hi hs => (hbd.block i (by have := hb2.size; have := hW3.size; omega)).trans ((hW3.other i hs).trans (hb2.block i hi)), fun _ _ h => h⟩, hS4⟩
  have ht := HTOK.out w4 hPre
  unfold pkV at ht
  dsimp only at ht
  go_upto_region 10 with fail
  go_wp2_with (guard_target =~ wpList _ _ _ (_ :: _) _ _; refine wpList_load_row rfl (.tmp 3) 113 rfl w.heap.size 113 _ _ rfl hP4 Try.underlying113 rfl (by kernel_rfl) ?_)
  refine ht.mono ?_
  rintro e w5 ⟨q, D, b, rfl, hT, hk, B, m, k, rfl⟩
  clear ht
  have hZ5 := (hk (w.heap.size + 1) (by omega) hsz4).trans hZ4
  go_wp2_with (guard_target =~ wpList _ _ _ (_ :: _) _ _; (refine wpList_store_row rfl (.tmp 4) (.tmp 39) 113 rfl (w.heap.size + 1) 0 113 _ _ #[.int .u8 q.pid, .int .u8 q.addr, .int .u8 q.endp, .int .u16 0, .int .u8 0, .int .u8 0, .bool false, .bool false, .int .u8 0, .slice B m k] rfl rfl hZ5 (by kernel_rfl) (by simp) rfl rfl ?_; intro w6 hZ6 hW6))
  refine ret_cellT _ _ _ _ _ rfl rfl rfl hZ6 Try.underlying113 rfl (by kernel_rfl) rfl ?_
  exact ⟨w4, w5, w.heap.size + 1, q, _, b, hPre, hT, rfl, hW6, by omega, hsz4⟩
def NoneT (R : World → World → Prop) (q : Pk) (D : Value) (b : Bool) (w w' : World) : Prop := q = pk0 ∧ D = .slice none 0 0 ∧ b = false ∧ R w w'
set_option maxHeartbeats 8000000 in
set_option maxRecDepth 100000 in
theorem hear_dno (s : Nat) (mb : Option Nat) (tok : Int) (ex : Option Addr) (p : Pk) (hp : p.pid = 3 ∨ p.pid = 11) (ha : p.addr = 0) (A : Option Addr) (n c : Nat) (w : World) (hS : w.heap[s]? = some (.cells (setC mb tok ex) 98 (0, 0)))
  (hck : CkOk p) (hU : U8 w A n c p.data) (ht : tok = 0 ∨ tok = 9) :
  Calls Try.prog 94 #[.pointer (some ⟨s, 0, none⟩), pkV p (.slice A n c)] w (HearT s mb w (NoneT fun a b => b = a)) := by
 have hb : ∀ o o', Below w.heap.size w ((w.alloc o).alloc o') := fun o o' => ((Below.refl w.heap.size w).alloc (Nat.le_refl _) o).alloc (by simp) o'
 have hck0 := fun w h => hck w A n c h
 have hsl := (Array.getElem?_eq_some_iff.1 hS).1
 obtain ⟨pid, ad, en, xs⟩ := p
 dsimp only at hp ha hU
 subst ha
 unfold pkV at hck0 ⊢
 dsimp only at hck0 ⊢
 go_enter Try.func94, Try.ntmps94
 go_upto_region 1 with fail
 obtain ⟨w0, hw0⟩ : ∃ w0, (w.alloc (.cells #[.int .u8 pid, .int .u8 0, .int .u8 en, .int .u16 0, .int .u8 0, .int .u8 0, .bool false, .bool false, .int .u8 0, .slice A n c] 113)).alloc (.cells #[.int .u8 0, .int .u8 0, .int .u8 0, .int .u16 0, .int .u8 0, .int .u8 0, .bool false, .bool false, .int .u8 0, .slice none 0 0] 113) = w0 := ⟨_, rfl⟩
 have hb0 : Below w.heap.size w w0 := by rw [← hw0]; exact hb _ _
 have hP0 : w0.heap[w.heap.size]? = some (.cells #[.int .u8 pid, .int .u8 0, .int .u8 en, .int .u16 0, .int .u8 0, .int .u8 0, .bool false, .bool false, .int .u8 0, .slice A n c] 113 (0, 0)) := by rw [← hw0]; exact alloc2_0 _ _ _
 have hZ0 : w0.heap[w.heap.size + 1]? = some (.cells #[.int .u8 0, .int .u8 0, .int .u8 0, .int .u16 0, .int .u8 0, .int .u8 0, .bool false, .bool false, .int .u8 0, .slice none 0 0] 113 (0, 0)) := by rw [← hw0]; exact alloc2_1 _ _ _
 have hS0 := heap_below hS hb0
 have hz0l := (Array.getElem?_eq_some_iff.1 hZ0).1
 rw [hw0]
 clear hw0 hb
 go_wp2_with fail
 refine (none_ret s w0 (cell_of hS0 0)).mono ?_
 rintro e w0' ⟨rfl, rfl⟩
 have p0 := cell_of hP0 0
 have p1 := cell_of hP0 1
 have p2 := cell_of hP0 2
 have p3 := cell_of hP0 3
 have p4 := cell_of hP0 4
 have p5 := cell_of hP0 5
 have p6 := cell_of hP0 6
 have p7 := cell_of hP0 7
 have p8 := cell_of hP0 8
 have p9 := cell_of hP0 9
 go_wp2_with fail
 refine (hck0 _ (hU.below hb0)).mono ?_
 rintro e w1 ⟨rfl, hb1⟩
 have hb1 := hb0.trans (hb1.mono hb0.size)
 have hS1 := heap_below hS hb1
 have hP1 := heap_below hP0 (by assumption)
 have hZ1 := heap_below hZ0 (by assumption)
 clear p0 p1 p2 p3 p4 p5 p6 p7 p8 p9
 unfold setC at hS1
 have x4 := cell_of hS1 4
 have x5 := cell_of hS1 5
 go_upto_region 4 with fail
 clear x4 x5
 obtain ⟨w2, hw2⟩ : ∃ w2, w1.alloc (.cells #[.int .u8 tok, .pointer ex] 96) = w2 := ⟨_, rfl⟩
 have hbA : Below w1.heap.size w1 w2 := by rw [← hw2]; exact (Below.refl w1.heap.size w1).alloc (Nat.le_refl _) _
 have hT2 : w2.heap[w1.heap.size]? = some (.cells #[.int .u8 tok, .pointer ex] 96 (0, 0)) := by rw [← hw2]; exact heap_alloc_new _ _
 rw [hw2]
 clear hw2
 have hS2 := heap_below hS1 hbA
 have hP2 := heap_below hP1 hbA
 have hZ2 := heap_below hZ1 hbA
 have hb2 := hb1.trans (hbA.mono hb1.size)
 have x4 := cell_of hS2 4
 have f4 := frozen_of hS2 4
 have x5 := cell_of hS2 5
 have f5 := frozen_of hS2 5
 go_upto_region 5 with fail
 have hQ := ((Put1.refl hS2).set 4 (.int .u8 0)).set 5 (.pointer none)
 have hS3 := hQ.heap
 have hW3 := hQ.wrote
 clear hQ x4 f4 x5 f5
 generalize (w2.setCell ⟨s, 4, none⟩ (.int .u8 0)).setCell ⟨s, 5, none⟩ (.pointer none) = w3 at hS3 hW3 ⊢
 have hP3 := (hW3.other w.heap.size (by omega)).trans hP2
 have hZ3 := (hW3.other (w.heap.size + 1) (by omega)).trans hZ2
 have hsA : w.heap.size + 1 < w1.heap.size := (Array.getElem?_eq_some_iff.1 hZ1).1
 have hsB : w1.heap.size < w2.heap.size := (Array.getElem?_eq_some_iff.1 hT2).1
 have hT3 := (hW3.other w1.heap.size (by omega)).trans hT2
 have hsz3 : w.heap.size + 1 < w3.heap.size := (Array.getElem?_eq_some_iff.1 hZ3).1
 have hPre : PreT s mb w w3 := ⟨⟨hW3.os.trans hb2.os, hW3.tape.trans hb2.tape, hW3.output.trans hb2.output, by have := hb2.size; have := hW3.size; omega, fun i hi hs => (hW3.other i hs).trans (hb2.block i hi), fun _ _ h => h⟩, hS3⟩
 have p0 := cell_of hP3 0
 have t0 := cell_of hT3 0
 have t1 := cell_of hT3 1
 rcases ht with rfl | rfl <;> rcases hp with rfl | rfl
 all_goals
  go_upto_region 14 with fail
  go_wp2_with (guard_target =~ wpList _ _ _ (_ :: _) _ _; (refine wpList_store_row rfl (.tmp 4) (.tmp 92) 113 rfl (w.heap.size + 1) 0 113 _ _ #[.int .u8 0, .int .u8 0, .int .u8 0, .int .u16 0, .int .u8 0, .int .u8 0, .bool false, .bool false, .int .u8 0, .slice none 0 0] rfl rfl hZ3 (by kernel_rfl) (by simp) rfl rfl ?_; intro w6 hZ6 hW6))
  refine ret_cellT _ _ _ _ _ rfl rfl rfl hZ6 Try.underlying113 rfl (by kernel_rfl) rfl ?_
  exact ⟨w3, w3, w.heap.size + 1, pk0, _, false, hPre, ⟨rfl, rfl, rfl, rfl⟩, rfl, hW6, by omega, hsz3⟩
set_option maxHeartbeats 8000000 in
set_option maxRecDepth 100000 in
theorem hear_dat (E : Nat) (T : Pk → Value → Bool → World → World → Prop) (s : Nat) (mb : Option Nat) (p : Pk) (hp : p.pid = 3 ∨ p.pid = 11) (ha : p.addr = 0) (A : Option Addr) (n c : Nat) (w : World) (hS : w.heap[s]? = some (.cells (setC mb 1 (some ⟨E, 0, none⟩)) 98 (0, 0)))
  (hck : CkOk p) (hU : U8 w A n c p.data)
  (htok : ∀ w1, PreT s mb w w1 → Calls Try.prog 96 #[.pointer (some ⟨E, 0, none⟩), pkV p (.slice A n c)] w1 fun e w' => ∃ q D b, e = .returned (.tuple #[pkV q D, .bool b]) ∧ T q D b w1 w' ∧ (∀ i, w.heap.size ≤ i → i < w1.heap.size → w'.heap[i]? = w1.heap[i]?) ∧ ∃ B m k, D = .slice B m k) :
  Calls Try.prog 94 #[.pointer (some ⟨s, 0, none⟩), pkV p (.slice A n c)] w (HearT s mb w T) := by
 have hb : ∀ o o', Below w.heap.size w ((w.alloc o).alloc o') := fun o o' => ((Below.refl w.heap.size w).alloc (Nat.le_refl _) o).alloc (by simp) o'
 have hck0 := fun w h => hck w A n c h
 have hsl := (Array.getElem?_eq_some_iff.1 hS).1
 obtain ⟨pid, ad, en, xs⟩ := p
 dsimp only at hp ha hU
 subst ha
 have HTOK := Lib.hid htok
 clear htok
 unfold pkV at hck0 ⊢
 dsimp only at hck0 ⊢
 go_enter Try.func94, Try.ntmps94
 go_upto_region 1 with fail
 obtain ⟨w0, hw0⟩ : ∃ w0, (w.alloc (.cells #[.int .u8 pid, .int .u8 0, .int .u8 en, .int .u16 0, .int .u8 0, .int .u8 0, .bool false, .bool false, .int .u8 0, .slice A n c] 113)).alloc (.cells #[.int .u8 0, .int .u8 0, .int .u8 0, .int .u16 0, .int .u8 0, .int .u8 0, .bool false, .bool false, .int .u8 0, .slice none 0 0] 113) = w0 := ⟨_, rfl⟩
 have hb0 : Below w.heap.size w w0 := by rw [← hw0]; exact hb _ _
 have hP0 : w0.heap[w.heap.size]? = some (.cells #[.int .u8 pid, .int .u8 0, .int .u8 en, .int .u16 0, .int .u8 0, .int .u8 0, .bool false, .bool false, .int .u8 0, .slice A n c] 113 (0, 0)) := by rw [← hw0]; exact alloc2_0 _ _ _
 have hZ0 : w0.heap[w.heap.size + 1]? = some (.cells #[.int .u8 0, .int .u8 0, .int .u8 0, .int .u16 0, .int .u8 0, .int .u8 0, .bool false, .bool false, .int .u8 0, .slice none 0 0] 113 (0, 0)) := by rw [← hw0]; exact alloc2_1 _ _ _
 have hS0 := heap_below hS hb0
 have hz0l := (Array.getElem?_eq_some_iff.1 hZ0).1
 rw [hw0]
 clear hw0 hb
 go_wp2_with fail
 refine (none_ret s w0 (cell_of hS0 0)).mono ?_
 rintro e w0' ⟨rfl, rfl⟩
 have p0 := cell_of hP0 0
 have p1 := cell_of hP0 1
 have p2 := cell_of hP0 2
 have p3 := cell_of hP0 3
 have p4 := cell_of hP0 4
 have p5 := cell_of hP0 5
 have p6 := cell_of hP0 6
 have p7 := cell_of hP0 7
 have p8 := cell_of hP0 8
 have p9 := cell_of hP0 9
 go_wp2_with fail
 refine (hck0 _ (hU.below hb0)).mono ?_
 rintro e w1 ⟨rfl, hb1⟩
 have hb1 := hb0.trans (hb1.mono hb0.size)
 have hS1 := heap_below hS hb1
 have hP1 := heap_below hP0 (by assumption)
 have hZ1 := heap_below hZ0 (by assumption)
 clear p0 p1 p2 p3 p4 p5 p6 p7 p8 p9
 unfold setC at hS1
 have x4 := cell_of hS1 4
 have x5 := cell_of hS1 5
 go_upto_region 4 with fail
 clear x4 x5
 obtain ⟨w2, hw2⟩ : ∃ w2, w1.alloc (.cells #[.int .u8 1, .pointer (some ⟨E, 0, none⟩)] 96) = w2 := ⟨_, rfl⟩
 have hbA : Below w1.heap.size w1 w2 := by rw [← hw2]; exact (Below.refl w1.heap.size w1).alloc (Nat.le_refl _) _
 have hT2 : w2.heap[w1.heap.size]? = some (.cells #[.int .u8 1, .pointer (some ⟨E, 0, none⟩)] 96 (0, 0)) := by rw [← hw2]; exact heap_alloc_new _ _
 rw [hw2]
 clear hw2
 have hS2 := heap_below hS1 hbA
 have hP2 := heap_below hP1 hbA
 have hZ2 := heap_below hZ1 hbA
 have hb2 := hb1.trans (hbA.mono hb1.size)
 have x4 := cell_of hS2 4
 have f4 := frozen_of hS2 4
 have x5 := cell_of hS2 5
 have f5 := frozen_of hS2 5
 go_upto_region 5 with fail
 have hQ := ((Put1.refl hS2).set 4 (.int .u8 0)).set 5 (.pointer none)
 have hS3 := hQ.heap
 have hW3 := hQ.wrote
 clear hQ x4 f4 x5 f5
 generalize (w2.setCell ⟨s, 4, none⟩ (.int .u8 0)).setCell ⟨s, 5, none⟩ (.pointer none) = w3 at hS3 hW3 ⊢
 have hP3 := (hW3.other w.heap.size (by omega)).trans hP2
 have hZ3 := (hW3.other (w.heap.size + 1) (by omega)).trans hZ2
 have hsA : w.heap.size + 1 < w1.heap.size := (Array.getElem?_eq_some_iff.1 hZ1).1
 have hsB : w1.heap.size < w2.heap.size := (Array.getElem?_eq_some_iff.1 hT2).1
 have hT3 := (hW3.other w1.heap.size (by omega)).trans hT2
 have hsz3 : w.heap.size + 1 < w3.heap.size := (Array.getElem?_eq_some_iff.1 hZ3).1
 have hPre : PreT s mb w w3 := ⟨⟨hW3.os.trans hb2.os, hW3.tape.trans hb2.tape, hW3.output.trans hb2.output, by have := hb2.size; have := hW3.size; omega, fun i hi hs => (hW3.other i hs).trans (hb2.block i hi), fun _ _ h => h⟩, hS3⟩
 have p0 := cell_of hP3 0
 have t0 := cell_of hT3 0
 have t1 := cell_of hT3 1
 rcases hp with rfl | rfl
 all_goals
  have ht := HTOK.out w3 hPre
  unfold pkV at ht
  dsimp only at ht
  go_upto_region 16 with fail
  clear p0
  go_wp2_with (guard_target =~ wpList _ _ _ (_ :: _) _ _; refine wpList_load_row rfl (.tmp 3) 113 rfl w.heap.size 113 _ _ rfl hP3 Try.underlying113 rfl (by kernel_rfl) ?_)
  refine ht.mono ?_
  rintro e w5 ⟨q, D, b, rfl, hT, hk, B, m, k, rfl⟩
  clear ht
  have hZ5 := (hk (w.heap.size + 1) (by omega) hsz3).trans hZ3
  go_wp2_with (guard_target =~ wpList _ _ _ (_ :: _) _ _; (refine wpList_store_row rfl (.tmp 4) (.tmp 71) 113 rfl (w.heap.size + 1) 0 113 _ _ #[.int .u8 q.pid, .int .u8 q.addr, .int .u8 q.endp, .int .u16 0, .int .u8 0, .int .u8 0, .bool false, .bool false, .int .u8 0, .slice B m k] rfl rfl hZ5 (by kernel_rfl) (by simp) rfl rfl ?_; intro w6 hZ6 hW6))
  refine ret_cellT _ _ _ _ _ rfl rfl rfl hZ6 Try.underlying113 rfl (by kernel_rfl) rfl ?_
  exact ⟨w3, w5, w.heap.size + 1, q, _, b, hPre, hT, rfl, hW6, by omega, hsz3⟩
set_option maxHeartbeats 8000000 in
set_option maxRecDepth 100000 in
theorem hear_ano (s : Nat) (mb : Option Nat) (tok : Int) (ex : Option Addr) (p : Pk) (hp : p.pid = 2) (ha : p.addr = 0) (A : Option Addr) (n c : Nat) (w : World) (hS : w.heap[s]? = some (.cells (setC mb tok ex) 98 (0, 0)))
  (hck : CkOk p) (hU : U8 w A n c p.data) (ht : tok = 0 ∨ tok = 1) :
  Calls Try.prog 94 #[.pointer (some ⟨s, 0, none⟩), pkV p (.slice A n c)] w (HearT s mb w (NoneT fun a b => b = a)) := by
 have hb : ∀ o o', Below w.heap.size w ((w.alloc o).alloc o') := fun o o' => ((Below.refl w.heap.size w).alloc (Nat.le_refl _) o).alloc (by simp) o'
 have hck0 := fun w h => hck w A n c h
 have hsl := (Array.getElem?_eq_some_iff.1 hS).1
 obtain ⟨pid, ad, en, xs⟩ := p
 dsimp only at hp ha hU
 subst ha
 subst hp
 unfold pkV at hck0 ⊢
 dsimp only at hck0 ⊢
 go_enter Try.func94, Try.ntmps94
 go_upto_region 1 with fail
 obtain ⟨w0, hw0⟩ : ∃ w0, (w.alloc (.cells #[.int .u8 2, .int .u8 0, .int .u8 en, .int .u16 0, .int .u8 0, .int .u8 0, .bool false, .bool false, .int .u8 0, .slice A n c] 113)).alloc (.cells #[.int .u8 0, .int .u8 0, .int .u8 0, .int .u16 0, .int .u8 0, .int .u8 0, .bool false, .bool false, .int .u8 0, .slice none 0 0] 113) = w0 := ⟨_, rfl⟩
 have hb0 : Below w.heap.size w w0 := by rw [← hw0]; exact hb _ _
 have hP0 : w0.heap[w.heap.size]? = some (.cells #[.int .u8 2, .int .u8 0, .int .u8 en, .int .u16 0, .int .u8 0, .int .u8 0, .bool false, .bool false, .int .u8 0, .slice A n c] 113 (0, 0)) := by rw [← hw0]; exact alloc2_0 _ _ _
 have hZ0 : w0.heap[w.heap.size + 1]? = some (.cells #[.int .u8 0, .int .u8 0, .int .u8 0, .int .u16 0, .int .u8 0, .int .u8 0, .bool false, .bool false, .int .u8 0, .slice none 0 0] 113 (0, 0)) := by rw [← hw0]; exact alloc2_1 _ _ _
 have hS0 := heap_below hS hb0
 have hz0l := (Array.getElem?_eq_some_iff.1 hZ0).1
 rw [hw0]
 clear hw0 hb
 go_wp2_with fail
 refine (none_ret s w0 (cell_of hS0 0)).mono ?_
 rintro e w0' ⟨rfl, rfl⟩
 have p0 := cell_of hP0 0
 have p1 := cell_of hP0 1
 have p2 := cell_of hP0 2
 have p3 := cell_of hP0 3
 have p4 := cell_of hP0 4
 have p5 := cell_of hP0 5
 have p6 := cell_of hP0 6
 have p7 := cell_of hP0 7
 have p8 := cell_of hP0 8
 have p9 := cell_of hP0 9
 go_wp2_with fail
 refine (hck0 _ (hU.below hb0)).mono ?_
 rintro e w1 ⟨rfl, hb1⟩
 have hb1 := hb0.trans (hb1.mono hb0.size)
 have hS1 := heap_below hS hb1
 have hP1 := heap_below hP0 (by assumption)
 have hZ1 := heap_below hZ0 (by assumption)
 clear p0 p1 p2 p3 p4 p5 p6 p7 p8 p9
 unfold setC at hS1
 have x4 := cell_of hS1 4
 have x5 := cell_of hS1 5
 go_upto_region 4 with fail
 clear x4 x5
 obtain ⟨w2, hw2⟩ : ∃ w2, w1.alloc (.cells #[.int .u8 tok, .pointer ex] 96) = w2 := ⟨_, rfl⟩
 have hbA : Below w1.heap.size w1 w2 := by rw [← hw2]; exact (Below.refl w1.heap.size w1).alloc (Nat.le_refl _) _
 have hT2 : w2.heap[w1.heap.size]? = some (.cells #[.int .u8 tok, .pointer ex] 96 (0, 0)) := by rw [← hw2]; exact heap_alloc_new _ _
 rw [hw2]
 clear hw2
 have hS2 := heap_below hS1 hbA
 have hP2 := heap_below hP1 hbA
 have hZ2 := heap_below hZ1 hbA
 have hb2 := hb1.trans (hbA.mono hb1.size)
 have x4 := cell_of hS2 4
 have f4 := frozen_of hS2 4
 have x5 := cell_of hS2 5
 have f5 := frozen_of hS2 5
 go_upto_region 5 with fail
 have hQ := ((Put1.refl hS2).set 4 (.int .u8 0)).set 5 (.pointer none)
 have hS3 := hQ.heap
 have hW3 := hQ.wrote
 clear hQ x4 f4 x5 f5
 generalize (w2.setCell ⟨s, 4, none⟩ (.int .u8 0)).setCell ⟨s, 5, none⟩ (.pointer none) = w3 at hS3 hW3 ⊢
 have hP3 := (hW3.other w.heap.size (by omega)).trans hP2
 have hZ3 := (hW3.other (w.heap.size + 1) (by omega)).trans hZ2
 have hsA : w.heap.size + 1 < w1.heap.size := (Array.getElem?_eq_some_iff.1 hZ1).1
 have hsB : w1.heap.size < w2.heap.size := (Array.getElem?_eq_some_iff.1 hT2).1
 have hT3 := (hW3.other w1.heap.size (by omega)).trans hT2
 have hsz3 : w.heap.size + 1 < w3.heap.size := (Array.getElem?_eq_some_iff.1 hZ3).1
 have hPre : PreT s mb w w3 := ⟨⟨hW3.os.trans hb2.os, hW3.tape.trans hb2.tape, hW3.output.trans hb2.output, by have := hb2.size; have := hW3.size; omega, fun i hi hs => (hW3.other i hs).trans (hb2.block i hi), fun _ _ h => h⟩, hS3⟩
 have p0 := cell_of hP3 0
 have t0 := cell_of hT3 0
 have t1 := cell_of hT3 1
 rcases ht with rfl | rfl
 all_goals
  go_upto_region 19 with fail
  go_wp2_with (guard_target =~ wpList _ _ _ (_ :: _) _ _; (refine wpList_store_row rfl (.tmp 4) (.tmp 92) 113 rfl (w.heap.size + 1) 0 113 _ _ #[.int .u8 0, .int .u8 0, .int .u8 0, .int .u16 0, .int .u8 0, .int .u8 0, .bool false, .bool false, .int .u8 0, .slice none 0 0] rfl rfl hZ3 (by kernel_rfl) (by simp) rfl rfl ?_; intro w6 hZ6 hW6))
  refine ret_cellT _ _ _ _ _ rfl rfl rfl hZ6 Try.underlying113 rfl (by kernel_rfl) rfl ?_
  exact ⟨w3, w3, w.heap.size + 1, pk0, _, false, hPre, ⟨rfl, rfl, rfl, rfl⟩, rfl, hW6, by omega, hsz3⟩
set_option maxHeartbeats 8000000 in
set_option maxRecDepth 100000 in
theorem hear_ack (E : Nat) (R : World → World → Prop) (s : Nat) (mb : Option Nat) (p : Pk) (hp : p.pid = 2) (ha : p.addr = 0) (A : Option Addr) (n c : Nat) (w : World) (hS : w.heap[s]? = some (.cells (setC mb 9 (some ⟨E, 0, none⟩)) 98 (0, 0)))
  (hck : CkOk p) (hU : U8 w A n c p.data)
  (htok : ∀ w1, PreT s mb w w1 → Calls Try.prog 97 #[.pointer (some ⟨E, 0, none⟩)] w1 fun e w' => e = .returned (.tuple #[]) ∧ R w1 w' ∧ (∀ i, w.heap.size ≤ i → i < w1.heap.size → w'.heap[i]? = w1.heap[i]?)) :
  Calls Try.prog 94 #[.pointer (some ⟨s, 0, none⟩), pkV p (.slice A n c)] w (HearT s mb w (NoneT R)) := by
 have hb : ∀ o o', Below w.heap.size w ((w.alloc o).alloc o') := fun o o' => ((Below.refl w.heap.size w).alloc (Nat.le_refl _) o).alloc (by simp) o'
 have hck0 := fun w h => hck w A n c h
 have hsl := (Array.getElem?_eq_some_iff.1 hS).1
 obtain ⟨pid, ad, en, xs⟩ := p
 dsimp only at hp ha hU
 subst ha
 subst hp
 have HTOK := Lib.hid htok
 clear htok
 unfold pkV at hck0 ⊢
 dsimp only at hck0 ⊢
 go_enter Try.func94, Try.ntmps94
 go_upto_region 1 with fail
 obtain ⟨w0, hw0⟩ : ∃ w0, (w.alloc (.cells #[.int .u8 2, .int .u8 0, .int .u8 en, .int .u16 0, .int .u8 0, .int .u8 0, .bool false, .bool false, .int .u8 0, .slice A n c] 113)).alloc (.cells #[.int .u8 0, .int .u8 0, .int .u8 0, .int .u16 0, .int .u8 0, .int .u8 0, .bool false, .bool false, .int .u8 0, .slice none 0 0] 113) = w0 := ⟨_, rfl⟩
 have hb0 : Below w.heap.size w w0 := by rw [← hw0]; exact hb _ _
 have hP0 : w0.heap[w.heap.size]? = some (.cells #[.int .u8 2, .int .u8 0, .int .u8 en, .int .u16 0, .int .u8 0, .int .u8 0, .bool false, .bool false, .int .u8 0, .slice A n c] 113 (0, 0)) := by rw [← hw0]; exact alloc2_0 _ _ _
 have hZ0 : w0.heap[w.heap.size + 1]? = some (.cells #[.int .u8 0, .int .u8 0, .int .u8 0, .int .u16 0, .int .u8 0, .int .u8 0, .bool false, .bool false, .int .u8 0, .slice none 0 0] 113 (0, 0)) := by rw [← hw0]; exact alloc2_1 _ _ _
 have hS0 := heap_below hS hb0
 have hz0l := (Array.getElem?_eq_some_iff.1 hZ0).1
 rw [hw0]
 clear hw0 hb
 go_wp2_with fail
 refine (none_ret s w0 (cell_of hS0 0)).mono ?_
 rintro e w0' ⟨rfl, rfl⟩
 have p0 := cell_of hP0 0
 have p1 := cell_of hP0 1
 have p2 := cell_of hP0 2
 have p3 := cell_of hP0 3
 have p4 := cell_of hP0 4
 have p5 := cell_of hP0 5
 have p6 := cell_of hP0 6
 have p7 := cell_of hP0 7
 have p8 := cell_of hP0 8
 have p9 := cell_of hP0 9
 go_wp2_with fail
 refine (hck0 _ (hU.below hb0)).mono ?_
 rintro e w1 ⟨rfl, hb1⟩
 have hb1 := hb0.trans (hb1.mono hb0.size)
 have hS1 := heap_below hS hb1
 have hP1 := heap_below hP0 (by assumption)
 have hZ1 := heap_below hZ0 (by assumption)
 clear p0 p1 p2 p3 p4 p5 p6 p7 p8 p9
 unfold setC at hS1
 have x4 := cell_of hS1 4
 have x5 := cell_of hS1 5
 go_upto_region 4 with fail
 clear x4 x5
 obtain ⟨w2, hw2⟩ : ∃ w2, w1.alloc (.cells #[.int .u8 9, .pointer (some ⟨E, 0, none⟩)] 96) = w2 := ⟨_, rfl⟩
 have hbA : Below w1.heap.size w1 w2 := by rw [← hw2]; exact (Below.refl w1.heap.size w1).alloc (Nat.le_refl _) _
 have hT2 : w2.heap[w1.heap.size]? = some (.cells #[.int .u8 9, .pointer (some ⟨E, 0, none⟩)] 96 (0, 0)) := by rw [← hw2]; exact heap_alloc_new _ _
 rw [hw2]
 clear hw2
 have hS2 := heap_below hS1 hbA
 have hP2 := heap_below hP1 hbA
 have hZ2 := heap_below hZ1 hbA
 have hb2 := hb1.trans (hbA.mono hb1.size)
 have x4 := cell_of hS2 4
 have f4 := frozen_of hS2 4
 have x5 := cell_of hS2 5
 have f5 := frozen_of hS2 5
 go_upto_region 5 with fail
 have hQ := ((Put1.refl hS2).set 4 (.int .u8 0)).set 5 (.pointer none)
 have hS3 := hQ.heap
 have hW3 := hQ.wrote
 clear hQ x4 f4 x5 f5
 generalize (w2.setCell ⟨s, 4, none⟩ (.int .u8 0)).setCell ⟨s, 5, none⟩ (.pointer none) = w3 at hS3 hW3 ⊢
 have hP3 := (hW3.other w.heap.size (by omega)).trans hP2
 have hZ3 := (hW3.other (w.heap.size + 1) (by omega)).trans hZ2
 have hsA : w.heap.size + 1 < w1.heap.size := (Array.getElem?_eq_some_iff.1 hZ1).1
 have hsB : w1.heap.size < w2.heap.size := (Array.getElem?_eq_some_iff.1 hT2).1
 have hT3 := (hW3.other w1.heap.size (by omega)).trans hT2
 have hsz3 : w.heap.size + 1 < w3.heap.size := (Array.getElem?_eq_some_iff.1 hZ3).1
 have hPre : PreT s mb w w3 := ⟨⟨hW3.os.trans hb2.os, hW3.tape.trans hb2.tape, hW3.output.trans hb2.output, by have := hb2.size; have := hW3.size; omega, fun i hi hs => (hW3.other i hs).trans (hb2.block i hi), fun _ _ h => h⟩, hS3⟩
 have p0 := cell_of hP3 0
 have t0 := cell_of hT3 0
 have t1 := cell_of hT3 1
 have ht := HTOK.out w3 hPre
 go_upto_region 21 with fail
 clear p0
 go_wp2_with fail
 refine ht.mono ?_
 rintro e w5 ⟨rfl, hT, hk⟩
 clear ht
 have hZ5 := (hk (w.heap.size + 1) (by omega) hsz3).trans hZ3
 all_goals
  go_wp2_with (guard_target =~ wpList _ _ _ (_ :: _) _ _; (refine wpList_store_row rfl (.tmp 4) (.tmp 92) 113 rfl (w.heap.size + 1) 0 113 _ _ #[.int .u8 0, .int .u8 0, .int .u8 0, .int .u16 0, .int .u8 0, .int .u8 0, .bool false, .bool false, .int .u8 0, .slice none 0 0] rfl rfl hZ5 (by kernel_rfl) (by simp) rfl rfl ?_; intro w6 hZ6 hW6))
  refine ret_cellT _ _ _ _ _ rfl rfl rfl hZ6 Try.underlying113 rfl (by kernel_rfl) rfl ?_
  exact ⟨w3, w5, w.heap.size + 1, pk0, _, false, hPre, ⟨rfl, rfl, rfl, hT⟩, rfl, hW6, by omega, hsz3⟩
end Go.Proofs.Ythifcblajimppaa
