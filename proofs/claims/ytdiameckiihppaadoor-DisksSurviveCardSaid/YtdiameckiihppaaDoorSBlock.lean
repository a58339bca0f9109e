/-
  What is proved here: Block returns the bytes on the medium; behind a cut there is nothing in the cache.
  Conditions: what the disk's blocks hold.
-/
import Derived.Test.YtdiameckiihppaaDoorSCut
import Derived.Laws.CopyRow
namespace Go.Proofs.YtdiameckiihppaaDoor
open Go.Proofs Go.RowKit

attribute [local go_sem] lt2 lt3 lt4 lt5

def BlockEnd (xs : List Int) (w : World) (e : Ending) (w' : World) : Prop := Below w.heap.size w w' ∧ ∃ A c, e = .returned (.tuple #[.slice A 64 c, .int .i64 0]) ∧ RowB w' A 64 c xs

set_option maxHeartbeats 4000000 in
set_option maxRecDepth 100000 in
theorem block_ret (L : Nat → Prop) (d : Nat) (st : St) (n : Nat) (w : World) (h : DiskAt L d st w) (hn : n < st.B) :
    Calls Tryd.prog 10 #[.pointer (some ⟨d, 0, none⟩), .int .i64 n] w (BlockEnd (medB st.med n) w) := by
  obtain ⟨v4, v5, v6, mb, A, c, s1, s2, s3, hI⟩ := h
  have y8 : w.cell? ⟨d, 8, none⟩ = some (.map (some mb)) := cell_of hI.disk 8
  have hval := valid_ret d mb w y8
  obtain ⟨k, hk⟩ : ∃ k, st.B = k := ⟨_, rfl⟩
  have y0 : w.cell? ⟨d, 0, none⟩ = some (.int .i64 k) := by rw [← hk]; exact cell_of hI.disk 0
  have y1 : w.cell? ⟨d, 1, none⟩ = some (.int .i64 64) := cell_of hI.disk 1
  have hnk : n < k := hk ▸ hn
  have q1 : (n : Int) < (k : Int) := by omega
  have q2 : ¬ (k : Int) ≤ (n : Int) := by omega
  have q3 : ¬ (n : Int) < 0 := by omega
  obtain ⟨mc, hmk, hmc⟩ := make64 w
  have hlk := med_get (w := w.alloc (.cells mc 5)) (hI.below ((Below.refl _ _).alloc (Nat.le_refl _) _)).med n
  have y8' : (w.alloc (.cells mc 5)).cell? ⟨d, 8, none⟩ = some (.map (some mb)) := cell_of (hI.below ((Below.refl _ _).alloc (Nat.le_refl _) _)).disk 8
  obtain ⟨i0, hi, hz0, hz1, hz2⟩ := info_parts info5
  have hb1 : Below w.heap.size w (w.alloc (.cells mc 5)) := (Below.refl _ _).alloc (Nat.le_refl _) _
  have hnew : (w.alloc (.cells mc 5)).heap[w.heap.size]? = some (.cells mc 5 (0, 0)) := heap_alloc_new w _
  have hms : mc.size = 64 := by rw [← Array.length_toList, hmc, List.length_map]; rfl
  cases hm : st.med n with
  | none =>
    rw [hm] at hlk
    dsimp only at hlk
    have hmb : medB st.med n = zeros := by unfold medB; rw [hm]
    have hcp := run_copy_nil (P := Tryd.prog) (w.alloc (.cells mc 5)) 24 24 3 5 ⟨w.heap.size, 0, none⟩ 64 64 Tryd.underlying24 (by rw [hi]; rfl)
    have H0 := Lib.hid (⟨hmc, hnew, hb1, hmb⟩ : _ ∧ _ ∧ _ ∧ _)
    clear hI hk hn hmc hi hz0 hz1 hz2 hb1 hnew hms hm hmb
    go_enter Tryd.func10, Tryd.ntmps10
    go_wp2_with fail
    refine hval.mono ?_
    rintro e w' ⟨rfl, hww⟩
    rw [hww]
    clear hww hval
    go_wp2_with fail
    go_ret2
    exact ⟨H0.out.2.2.1, some ⟨w.heap.size, 0, none⟩, 64, rfl, by rw [H0.out.2.2.2]; exact row64 H0.out.2.1 H0.out.1 (by decide) zeros_b⟩
  | some e =>
    rw [hm] at hlk
    dsimp only [Ent.val] at hlk
    have hmb : medB st.med n = e.b := by unfold medB; rw [hm]
    have hd := (hI.dat e (.inr ⟨n, hm⟩)).1
    have hd1 : RowB (w.alloc (.cells mc 5)) e.A 64 e.c e.b := hd.keep fun a ea => hb1.block _ (hd.lt a ea)
    obtain ⟨a, ha⟩ := hd.addr
    have hl64 : e.b.length = 64 := by have := hd.1.1; simpa using this
    have hcp := run_copy_row (P := Tryd.prog) (w.alloc (.cells mc 5)) 24 24 3 5 w.heap.size 0 64 64 a 64 e.c mc 5 (e.b.map (Value.int .u8)) Tryd.underlying24 (by rw [hi]; exact congrArg some hz1) hnew (by rw [List.length_map, hl64]; rfl)
      (fun j v hj => by
        have hj64 : j < 64 := by have := (List.getElem?_eq_some_iff.1 hj).1; rwa [List.length_map, hl64] at this
        rw [ha] at hd1
        rw [hd1.1.cell hj64]; exact hj)
      (by rw [List.length_map, hl64, hms]; decide) (fun v hv => by obtain ⟨x, _, rfl⟩ := List.mem_map.1 hv; rfl)
    have hdr : mc.toList.drop (0 + (e.b.map (Value.int .u8)).length) = [] := List.drop_eq_nil_of_le (by rw [List.length_map, hl64, Array.length_toList, hms]; decide)
    rw [hdr, List.take_zero, List.nil_append, List.append_nil, List.length_map, hl64] at hcp
    obtain ⟨w2, hw2⟩ : ∃ w2, (w.alloc (.cells mc 5)).setRow w.heap.size (e.b.map (Value.int .u8)).toArray = w2 := ⟨_, rfl⟩
    rw [hw2] at hcp
    have h2 : w2.heap[w.heap.size]? = some (.cells (e.b.map (Value.int .u8)).toArray 5 (0, 0)) := by rw [← hw2]; exact setRow_heap _ _ _ _ _ _ hnew
    have hW2 : Wrote w.heap.size (w.alloc (.cells mc 5)) w2 := by rw [← hw2]; exact Wrote.setRow _ _ _
    rw [ha] at hlk
    have H0 := Lib.hid (⟨h2, hW2, hb1, hmb, hl64, hd.2⟩ : _ ∧ _ ∧ _ ∧ _ ∧ _ ∧ _)
    clear hI hk hn hmc hi hz0 hz1 hz2 hb1 hnew hms hm hmb hd hd1 ha hl64 hdr hw2 h2 hW2
    go_enter Tryd.func10, Tryd.ntmps10
    go_wp2_with fail
    refine hval.mono ?_
    rintro e w' ⟨rfl, hww⟩
    rw [hww]
    clear hww hval
    go_wp2_with fail
    go_ret2
    exact ⟨H0.out.2.2.1.trans (H0.out.2.1.below (Nat.le_refl _)), some ⟨w.heap.size, 0, none⟩, 64, rfl, by rw [H0.out.2.2.2.1]; exact row64 H0.out.1 (by simp) H0.out.2.2.2.2.1 H0.out.2.2.2.2.2⟩

theorem info3 : (Tryd.prog.info? 3).map (fun i => (i.zero, i.size, i.bytes)) = some (some (.int .i64 0), 1, 8) := by kernel_rfl

/-- there is nothing in the cache -/
def CachedEnd (w : World) (e : Ending) (w' : World) : Prop := Below w.heap.size w w' ∧ ∃ A c, e = .returned (.slice A 0 c)

set_option maxHeartbeats 4000000 in
set_option maxRecDepth 100000 in
theorem cached_ret (L : Nat → Prop) (d : Nat) (st : St) (w : World) (h : DiskAt L d st w) (hc : st.cache = []) :
    Calls Tryd.prog 11 #[.pointer (some ⟨d, 0, none⟩)] w (CachedEnd w) := by
  obtain ⟨v4, v5, v6, mb, A, c, s1, s2, s3, hI⟩ := h
  have y8 : w.cell? ⟨d, 8, none⟩ = some (.map (some mb)) := cell_of hI.disk 8
  have hval := valid_ret d mb w y8
  have y9 : w.cell? ⟨d, 9, none⟩ = some (.slice A 0 c) := by have := cell_of hI.disk 9; rw [this]; rw [hc]; rfl
  have y9' : ∀ o, (w.alloc o).cell? ⟨d, 9, none⟩ = some (.slice A 0 c) := fun o => by rw [World.cell?_alloc_lt _ _ _ (World.block_lt_of_cell? _ _ y9)]; exact y9
  have hba : ∀ o, Below w.heap.size w (w.alloc o) := fun o => (Below.refl _ _).alloc (Nat.le_refl _) _
  obtain ⟨i0, hi, hz0, hz1, hz2⟩ := info_parts info3
  have hmk := run_makeSlice (P := Tryd.prog) w 52 3 i0 (.int .i64 0) Tryd.underlying52 hi hz0 .i64 .i64 0 0 (by decide) (by decide) (by simp) (by simp) (by decide)
  have hmk : (Instr.makeSlice 52 (.int .i64 0) (.int .i64 0)).run Tryd.prog w = .ok (.slice (some ⟨w.heap.size, 0, none⟩) 0 0) (w.alloc (.cells (madeCells (Value.int .i64 0).cells (0 * i0.size)) 3)) := hmk
  clear hI y8 hi hz0 hz1 hz2
  go_enter Tryd.func11, Tryd.ntmps11
  go_wp2_with fail
  refine hval.mono ?_
  rintro e w' ⟨rfl, hww⟩
  rw [hww]
  clear hww hval
  go_wp2_with fail
  go_loop [3, 20] (fun v i => v = .slice (some ⟨w.heap.size, 0, none⟩) 0 0 ∧ i = .int .i64 0) (fun _ _ => 0)
  case atStart => exact ⟨rfl, rfl⟩
  case round =>
    obtain ⟨rfl, rfl⟩ := hrel
    go_wp2_with fail
    go_ret
    exact ⟨hba _, _, _, rfl⟩
end Go.Proofs.YtdiameckiihppaaDoor
