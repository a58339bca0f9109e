/-
  What is proved here: the command that writes a block.
  Conditions: what the disk's blocks hold.
-/
import Derived.Test.YtdiameckiihppaaDoorSReads
namespace Go.Proofs.YtdiameckiihppaaDoor
open Go.Proofs Go.RowKit

attribute [local go_sem] lt2 lt3 lt4 lt5
attribute [-go_sem] Builtin.append_

def WritesEnd (L : Nat → Prop) (d : Nat) (st : St) (n : Nat) (xs : List Int) (w : World) (e : Ending) (w' : World) : Prop := e = .returned (.tuple #[.slice none 0 0, senV 0 0 0]) ∧ ∃ A c, ChgTo L d (st.keep ⟨n, A, c, xs⟩) w w'

set_option maxHeartbeats 4000000 in
set_option maxRecDepth 100000 in
theorem writes_ret (L : Nat → Prop) (d : Nat) (st : St) (n : Nat) (B : Option Addr) (cb : Nat) (xs : List Int) (w : World) (h : DiskAt L d st w) (hn : n < 65536) (hU : U8 w B 64 cb xs) :
    Calls Tryd.prog 43 #[.pointer (some ⟨d, 0, none⟩), cmdV 42 n 1, .slice B 64 cb] w (WritesEnd L d st n xs w) := by
  unfold cmdV
  obtain ⟨B, rfl⟩ : ∃ a, B = some a := by
    obtain ⟨_, _, _, ⟨_, h0, _⟩ | ⟨a, rfl, _⟩⟩ := hU
    · omega
    · exact ⟨a, rfl⟩
  have hcb : 64 ≤ cb := hU.2.2.1
  have hb : ∀ a b, Below w.heap.size w ((w.alloc a).alloc b) := fun a b => ((Below.refl w.heap.size w).alloc (Nat.le_refl _) a).alloc (by simp) b
  have H0 := Lib.hid (⟨h, hU⟩ : _ ∧ _)
  clear h hU
  go_enter Tryd.func43, Tryd.ntmps43
  go_upto_region 1 with fail
  have c0 := alloc2_0 w (.cells #[.int .u8 42, .int .u32 n, .int .u16 1, .int .i64 0] 44 (0, 0)) (.cells #[.int .u8 0, .int .u8 0, .int .u8 0] 59 (0, 0))
  have c1 := alloc2_1 w (.cells #[.int .u8 42, .int .u32 n, .int .u16 1, .int .i64 0] 44 (0, 0)) (.cells #[.int .u8 0, .int .u8 0, .int .u8 0] 59 (0, 0))
  have hb' := hb (.cells #[.int .u8 42, .int .u32 n, .int .u16 1, .int .i64 0] 44 (0, 0)) (.cells #[.int .u8 0, .int .u8 0, .int .u8 0] 59 (0, 0))
  clear hb
  generalize ((w.alloc (.cells #[.int .u8 42, .int .u32 n, .int .u16 1, .int .i64 0] 44 (0, 0))).alloc (.cells #[.int .u8 0, .int .u8 0, .int .u8 0] 59 (0, 0))) = w2 at *
  have x1 := cell_of c0 1
  have x2 := cell_of c0 2
  have hl1 : w.heap.size + 1 < w2.heap.size := (Array.getElem?_eq_some_iff.1 c1).1
  have hdw := H0.out.1.widen hb'
  have hU2 := H0.out.2.below hb'
  obtain ⟨v4, v5, v6, mb, A, c, s1, s2, s3, hI⟩ := id hdw
  have y1 : w2.cell? ⟨d, 1, none⟩ = some (.int .i64 64) := cell_of hI.disk 1
  have y3 : w2.cell? ⟨d, 3, none⟩ = some (.bool false) := cell_of hI.disk 3
  have H2 := Lib.hid (⟨hdw, hU2, c1, hb', hl1⟩ : _ ∧ _ ∧ _ ∧ _ ∧ _)
  clear hdw hU2 c0 c1 hb' hl1 hI
  go_quiet (fail)
  go_upto_region 5 with fail
  go_wp2_with fail
  go_loopw [31] (fun i wr => (i = .int .i64 0 ∧ ∃ q, wr = w2.drewN q) ∨ (i = .int .i64 1 ∧ Hid (∃ A c, ChgTo (Wid L w.heap.size w2.heap.size) d (st.keep ⟨n, A, c, xs⟩) w2 wr))) (fun i _ => 1 - (intOf i).toNat)
  case atStart => exact .inl ⟨rfl, _, rfl⟩
  case round =>
    rcases hrel with ⟨rfl, q, rfl⟩ | ⟨rfl, HH⟩
    · go_upto_region 8 with fail
      refine region_last (by kernel_rfl) rfl rfl (by kernel_rfl) (by kernel_rfl) (by kernel_rfl) (by kernel_rfl) ?_
      dsimp only [List.dropLast, List.getLast?, List.getLast]
      repeat (go_big_quiet_step (fail))
      refine wpQuiet_nil ?_
      rintro _ ⟨nq, rfl⟩
      refine op_any (n := .enter 55 #[.pointer (some ⟨d, 0, none⟩), .int .i64 n, .slice (some B) 64 cb]) (w' := (w2.drewN q).drewN nq) (by unfold execOp; simp [go_sem]) ?_
      rw [Oper.upon_enter]
      have hkp := keep_ret (Wid L w.heap.size w2.heap.size) d st n (some B) cb xs ((w2.drewN q).drewN nq) ((H2.out.1.drewN q).drewN nq) ((H2.out.2.1.drewN q).drewN nq)
      refine hkp.mono ?_
      rintro e w3 ⟨rfl, hch⟩
      have HC := Lib.hid hch
      clear hch hkp
      dsimp only [Act.put]
      go_wp2_with fail
      go_roundw
      case rel =>
        obtain ⟨A, c, h1, h2⟩ := HC.out
        exact .inr ⟨rfl, Lib.hid ⟨A, c, h1, h2.os, h2.tape, h2.output, h2.size, h2.block⟩⟩
      case measure => simp [intOf]
    · obtain ⟨A, c, hch⟩ := HH.out
      have hS : wr.heap[w.heap.size + 1]? = some (.cells #[.int .u8 0, .int .u8 0, .int .u8 0] 59 (0, 0)) := (hch.2.block _ H2.out.2.2.2.2 (.inr ⟨by omega, H2.out.2.2.2.2⟩)).trans H2.out.2.2.1
      clear hch
      go_wp2_with (refine wpList_store_row rfl (.tmp 7) (.tmp 59) 59 rfl (w.heap.size + 1) 0 59 #[.int .u8 0, .int .u8 0, .int .u8 0] #[.int .u8 0, .int .u8 0, .int .u8 0] #[.int .u8 0, .int .u8 0, .int .u8 0] rfl rfl hS (by kernel_rfl) (by simp) rfl rfl ?_; intro w5 hS5 hW5)
      refine ret_tc (w.heap.size + 1) _ _ _ _ rfl rfl rfl hS5 Tryd.underlying59 rfl (by kernel_rfl) rfl ⟨rfl, ?_⟩
      obtain ⟨A, c, hch⟩ := HH.out
      have hin : Wid L w.heap.size w2.heap.size (w.heap.size + 1) := .inr ⟨by omega, H2.out.2.2.2.2⟩
      exact ⟨A, c, (hch.1.wrote hW5 hin).narrow, ((Kp.below H2.out.2.2.2.1).trans hch.2.narrow).trans (Kp.wrote hW5 fun hl => by
        obtain ⟨_, _, _, _, _, _, _, _, _, hI⟩ := H0.out.1
        have := hI.lt _ hl
        omega)⟩
end Go.Proofs.YtdiameckiihppaaDoor
