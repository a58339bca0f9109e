/-
  What is proved here: the first command behind a power cut fails; Run; the law's run.
  Conditions: what Encode and Decode return; what the disk's blocks hold.
-/
import Derived.Test.YtdiameckiihppaaDoorSRun
namespace Go.Proofs.YtdiameckiihppaaDoor
open Go.Proofs Go.RowKit

attribute [local go_sem] lt2 lt3 lt4 lt5

/-- what is left by a command that fails -/
def PendEnd (L : Nat → Prop) (d : Nat) (st : St) (w : World) (e : Ending) (w' : World) : Prop := e = .returned (.tuple #[.slice none 0 0, senV 6 41 0]) ∧ ChgTo L d { st with pend := false } w w'

set_option maxHeartbeats 4000000 in
set_option maxRecDepth 100000 in
theorem pend_ret (L : Nat → Prop) (d : Nat) (st : St) (b O : Value) (w : World) (h : DiskAt L d st w) (hp : st.pend = true) (hdec : ∀ w', Below w.heap.size w w' → Calls Tryd.prog 51 #[b] w' (CmdEnd 0 0 0 w')) :
    Calls Tryd.prog 25 #[.pointer (some ⟨d, 0, none⟩), b, O] w (PendEnd L d st w) := by
  have hb0 : ∀ o, Below w.heap.size w (w.alloc o) := fun o => (Below.refl w.heap.size w).alloc (Nat.le_refl _) o
  have H0 := Lib.hid (⟨h, hp⟩ : _ ∧ _)
  have HD := Lib.hid hdec
  clear hp hdec
  have hdc := fun o => decode_ret L d st 0 0 0 b (w.alloc o) (h.below (hb0 o)) (by omega) (by omega) (fun w' hw' => HD.out w' ((hb0 o).trans (hw'.mono (hb0 o).size)))
  clear h HD
  go_enter Tryd.func25, Tryd.ntmps25
  go_upto_region 1 with fail
  go_wp2_with fail
  refine (hdc _).mono ?_
  rintro e w2 ⟨hb2, rfl⟩
  unfold cmdV senV
  have HB2 := Lib.hid hb2
  clear hb2 hdc
  go_upto_region 2 with fail
  have c0 := alloc2_0 w2 (.cells #[.int .u8 0, .int .u32 0, .int .u16 0, .int .i64 0] 44 (0, 0)) (.cells #[.int .u8 0, .int .u8 0, .int .u8 0] 59 (0, 0))
  have c1 := alloc2_1 w2 (.cells #[.int .u8 0, .int .u32 0, .int .u16 0, .int .i64 0] 44 (0, 0)) (.cells #[.int .u8 0, .int .u8 0, .int .u8 0] 59 (0, 0))
  have hb3 : Below w2.heap.size w2 ((w2.alloc (.cells #[.int .u8 0, .int .u32 0, .int .u16 0, .int .i64 0] 44 (0, 0))).alloc (.cells #[.int .u8 0, .int .u8 0, .int .u8 0] 59 (0, 0))) := ((Below.refl w2.heap.size w2).alloc (Nat.le_refl _) _).alloc (by simp) _
  generalize ((w2.alloc (.cells #[.int .u8 0, .int .u32 0, .int .u16 0, .int .i64 0] 44 (0, 0))).alloc (.cells #[.int .u8 0, .int .u8 0, .int .u8 0] 59 (0, 0))) = w3 at *
  have s0 := cell_of c1 0
  have s1 := cell_of c1 1
  have s2 := cell_of c1 2
  have o0 := cell_of c0 0
  have hw1 : Below w.heap.size w (w.alloc (.cells #[.int .u8 0, .int .u8 0, .int .u8 0] 59 (0, 0))) := hb0 _
  have hz1 : (w.alloc (.cells #[.int .u8 0, .int .u8 0, .int .u8 0] 59 (0, 0))).heap[w.heap.size]? = some (.cells #[.int .u8 0, .int .u8 0, .int .u8 0] 59 (0, 0)) := heap_alloc_new w _
  have hb13 := HB2.out.trans (hb3.mono HB2.out.size)
  have hw3 : Below w.heap.size w w3 := hw1.trans (hb13.mono hw1.size)
  have hz3 : w3.heap[w.heap.size]? = some (.cells #[.int .u8 0, .int .u8 0, .int .u8 0] 59 (0, 0)) := (hb13.block _ (by simp)).trans hz1
  have hin : w.heap.size < w3.heap.size := (Array.getElem?_eq_some_iff.1 hz3).1
  obtain ⟨v4, v5, v6, mb, A, c, s1', s2', s3', hI⟩ := H0.out.1.widen hw3
  have hdd : w.heap.size ≠ d := fun e => hI.nd (e ▸ .inr ⟨Nat.le_refl _, hin⟩)
  have y13 : w3.cell? ⟨d, 13, none⟩ = some (.bool true) := by
    have := cell_of hI.disk 13
    rw [H0.out.2] at this
    exact this
  have f13 := frozen_of hI.disk 13
  have hP := (Put1.refl hI.disk).set 13 (.bool false)
  have hz4 : (w3.setCell ⟨d, 13, none⟩ (.bool false)).heap[w.heap.size]? = some (.cells #[.int .u8 0, .int .u8 0, .int .u8 0] 59 (0, 0)) := (hP.wrote.other _ hdd).trans hz3
  have HC := Lib.hid (⟨hw3, hI, hP, hin⟩ : _ ∧ _ ∧ _ ∧ _)
  clear c0 c1 hb3 hw1 hz1 hb13 hw3 hz3 HB2 hb0 hI hP hin hdd
  go_wp2_with (refine wpList_store_row rfl (.tmp 7) (.tmp 38) 59 rfl w.heap.size 0 59 #[.int .u8 0, .int .u8 0, .int .u8 0] #[.int .u8 6, .int .u8 41, .int .u8 0] #[.int .u8 6, .int .u8 41, .int .u8 0] rfl rfl hz4 (by kernel_rfl) (by simp) rfl rfl ?_; intro w10 hS10 hW10)
  refine ret_tc w.heap.size _ _ _ _ rfl rfl rfl hS10 Tryd.underlying59 rfl (by kernel_rfl) rfl ⟨rfl, ?_⟩
  obtain ⟨hw3, hI, hP, hin⟩ := HC.out
  have hu := hI.upd (w' := w3.setCell ⟨d, 13, none⟩ (.bool false)) (A' := A) (c' := c) (t1 := s1') (t2 := s2') (t3 := s3') (st' := { st with pend := false })
    ⟨hP.wrote.os, hP.wrote.tape, hP.wrote.output⟩ (Nat.le_of_eq hP.wrote.size.symm) (fun j _ j1 _ _ => hP.wrote.other j j1)
    hP.heap (hI.med.keep (hP.wrote.other mb (fun e => hI.ne1 e.symm))) (hI.row.keep fun a ea => hP.wrote.other _ (hI.ne2 a ea).1)
    (fun e he => .inl he) hI.nr hI.len
  have hd : DiskAt (Wid L w.heap.size w3.heap.size) d { st with pend := false } (w3.setCell ⟨d, 13, none⟩ (.bool false)) := ⟨_, _, _, _, _, _, _, _, _, hu.1⟩
  refine ⟨(hd.wrote hW10 (.inr ⟨Nat.le_refl _, hin⟩)).narrow, ((Kp.below hw3).trans hu.2.narrow).trans (Kp.wrote hW10 fun hl => ?_)⟩
  obtain ⟨_, _, _, _, _, _, _, _, _, hI0⟩ := H0.out.1
  have := hI0.lt _ hl
  omega
end Go.Proofs.YtdiameckiihppaaDoor
