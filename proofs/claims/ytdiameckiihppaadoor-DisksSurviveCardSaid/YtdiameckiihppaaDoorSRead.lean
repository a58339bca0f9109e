/-
  What is proved here: read returns the bytes of a block.
  Conditions: what the disk's blocks hold.
-/
import Derived.Test.YtdiameckiihppaaDoorSKeep
import Derived.Laws.OwnMore
namespace Go.Proofs.YtdiameckiihppaaDoor
open Go.Proofs Go.RowKit

attribute [local go_sem] lt2 lt3 lt4 lt5

def zeros : List Int := List.replicate 64 0
/-- what the medium holds -/
def medB (M : Nat → Option Ent) (n : Nat) : List Int := match M n with | some e => e.b | none => zeros
/-- what a block reads as -/
def St.val (st : St) (n : Nat) : List Int := match idxE n st.cache with | some i => ((st.cache[i]?).map Ent.b).getD [] | none => medB st.med n

theorem neq_nil {P : Program} (w : World) (t e : TypeId) (a : Option Addr) (n c : Nat) (h : P.underlying t = some (.slice e)) : (binOp .neq t (.slice a n c) (.slice none 0 0)).run P w = .ok (.bool (!a.isNone)) w := by
  simp [binOp, Op.equal, Op.maxDepth, Lib.run_equalIn_slice_nil w 9999 t e a n c 0 0 h]

theorem zeros_b : ∀ x ∈ zeros, 0 ≤ x ∧ x ≤ 255 := by
  intro x hx
  obtain rfl := (List.mem_replicate.1 hx).2
  omega
theorem toList_made (n : Nat) : (madeCells #[.int .u8 0] n).toList = List.replicate n (.int .u8 0) := Go.toList_madeCells_one _ _

/-- 64 zeros are made -/
theorem make64 (w : World) : ∃ mc : Array Value, (Instr.makeSlice 24 (.int .i64 64) (.int .i64 64)).run Tryd.prog w = .ok (.slice (some ⟨w.heap.size, 0, none⟩) 64 64) (w.alloc (.cells mc 5)) ∧ mc.toList = zeros.map (Value.int .u8) := by
  obtain ⟨i0, hi, hz0, hz1, hz2⟩ := info_parts info5
  refine ⟨madeCells (Value.int .u8 0).cells (64 * 1), ?_, ?_⟩
  · have h := run_makeSlice (P := Tryd.prog) w 24 5 i0 (.int .u8 0) Tryd.underlying24 hi hz0 .i64 .i64 64 64 (by decide) (by decide) (by rw [hz1]; decide) (by rw [hz2]; decide) (by decide)
    rw [hz1] at h
    exact h
  · show (madeCells #[.int .u8 0] 64).toList = _
    rw [toList_made]
    unfold zeros
    rw [List.map_replicate]
theorem row64 {w : World} {g : Nat} {mc : Array Value} {xs : List Int} (h : w.heap[g]? = some (.cells mc 5 (0, 0))) (he : mc.toList = xs.map (Value.int .u8)) (hl : xs.length = 64) (hb : ∀ x ∈ xs, 0 ≤ x ∧ x ≤ 255) : RowB w (some ⟨g, 0, none⟩) 64 64 xs := by
  have hs : mc.size = 64 := by rw [← Array.length_toList, he, List.length_map, hl]
  refine ⟨⟨by rw [List.length_map, hl], Nat.le_refl _, fun u hu => ?_, .inr ⟨g, 0, mc, rfl, h, by omega, fun j hj => ?_⟩⟩, hb⟩
  · obtain ⟨x, _, rfl⟩ := List.mem_map.1 hu
    rfl
  · rw [Nat.zero_add, ← he, Array.getElem?_toList]

def ReadEnd (xs : List Int) (w : World) (e : Ending) (w' : World) : Prop := Below w.heap.size w w' ∧ ∃ A c, e = .returned (.slice A 64 c) ∧ RowB w' A 64 c xs

theorem RowB.addr {w : World} {A : Option Addr} {c : Nat} {xs : List Int} (h : RowB w A 64 c xs) : ∃ a, A = some a := by
  obtain ⟨_, _, _, ⟨_, h0, _⟩ | ⟨b, off, cs, rfl, _⟩⟩ := h.1
  · omega
  · exact ⟨_, rfl⟩

set_option maxHeartbeats 4000000 in
set_option maxRecDepth 100000 in
theorem read_ret (L : Nat → Prop) (d : Nat) (st : St) (n : Nat) (w : World) (h : DiskAt L d st w) :
    Calls Tryd.prog 54 #[.pointer (some ⟨d, 0, none⟩), .int .i64 n] w (ReadEnd (st.val n) w) := by
  obtain ⟨v4, v5, v6, mb, A, c, s1, s2, s3, hI⟩ := h
  have hb0 : ∀ o, Below w.heap.size w (w.alloc o) := fun o => (Below.refl w.heap.size w).alloc (Nat.le_refl _) o
  obtain ⟨w1, hw1⟩ : ∃ w1, w.alloc (.cells #[.int .i64 n] 3 (0, 0)) = w1 := ⟨_, rfl⟩
  have hb1 : Below w.heap.size w w1 := hw1 ▸ hb0 _
  have hg1 : w1.cell? ⟨w.heap.size, 0, none⟩ = some (.int .i64 n) := by
    rw [← hw1]
    exact cell_of (heap_alloc_new w _) 0
  have hI1 := hI.below hb1
  have x9 : w1.cell? ⟨d, 9, none⟩ = some (.slice A st.cache.length c) := cell_of hI1.disk 9
  have hidx := idx_read w.heap.size st.cache.length A c st.cache n w1 hg1 hI1.row rfl (by have := hI1.len; omega)
  have hs1 : w.heap.size < w1.heap.size := by rw [← hw1]; simp
  have H1 := Lib.hid (⟨hb1, hg1, hI1, hs1⟩ : _ ∧ _ ∧ _ ∧ _)
  have HW := Lib.hid hw1
  clear hI hb0 hb1 hg1 hI1 hs1 hw1
  go_enter Tryd.func54, Tryd.ntmps54
  go_upto_region 1 with fail
  rw [HW.out]
  go_wp2_with fail
  refine hidx.mono ?_
  rintro e w2 ⟨rfl, hb2⟩
  have hI2 := H1.out.2.2.1.below hb2
  have hg2 : w2.cell? ⟨w.heap.size, 0, none⟩ = some (.int .i64 n) := (hb2.cell H1.out.2.2.2).trans H1.out.2.1
  have hw2 : Below w.heap.size w w2 := H1.out.1.trans (hb2.mono H1.out.1.size)
  have H2 := Lib.hid (⟨hI2, hg2, hw2⟩ : _ ∧ _ ∧ _)
  clear hidx x9 hb2 HW H1
  cases hie : idxE n st.cache with
  | some i =>
    obtain ⟨x, hx, hxn⟩ := idx_some hie
    have hil : i < st.cache.length := (List.getElem?_eq_some_iff.1 hx).1
    have hii : idxI n st.cache = (i : Int) := by unfold idxI; rw [hie]
    rw [hii]
    obtain ⟨hr1, hkc, hr3, ⟨_, h0, _⟩ | ⟨b, off, cs, rfl, hbb, hsz, hcs⟩⟩ := id hI2.row
    · omega
    have y9 : w2.cell? ⟨d, 9, none⟩ = some (.slice (some ⟨b, off, none⟩) st.cache.length c) := cell_of hI2.disk 9
    have y1 : w2.cell? ⟨b, off + i * 2 + 1, none⟩ = some (.slice x.A 64 x.c) := (cell_of hbb _).trans ((hcs _ (by omega)).trans (flat_at _ i x hx).2)
    have q1 : (i : Int) < (st.cache.length : Int) := by omega
    have q2 : (i : Int) ≤ (c : Int) := by omega
    have HX := Lib.hid (⟨hie, hx, hxn, hil⟩ : _ ∧ _ ∧ _ ∧ _)
    clear hie hx hxn hil hii hI2 hg2 hw2 hr1 hkc hr3 hbb hsz hcs
    go_wp2_with fail
    go_ret
    obtain ⟨hie, hx, hxn, hil⟩ := HX.out
    obtain ⟨hI2, hg2, hw2⟩ := H2.out
    have hv : st.val n = x.b := by unfold St.val; rw [hie]; dsimp only; rw [hx]; rfl
    rw [hv]
    exact ⟨hw2, x.A, x.c, rfl, (hI2.dat x (.inl (List.mem_of_getElem? hx))).1⟩
  | none =>
    have hii : idxI n st.cache = (-1 : Int) := by unfold idxI; rw [hie]
    rw [hii]
    have hv : st.val n = medB st.med n := by unfold St.val; rw [hie]
    have HV := Lib.hid hv
    clear hie hii hv
    have hlk := fun q => med_get (w := w2.drewN q) (show MedAt (w2.drewN q) mb st.med from hI2.med) n
    have y8 : w2.cell? ⟨d, 8, none⟩ = some (.map (some mb)) := cell_of hI2.disk 8
    have y1 : w2.cell? ⟨d, 1, none⟩ = some (.int .i64 64) := cell_of hI2.disk 1
    cases hm : st.med n with
    | some e =>
      rw [hm] at hlk
      dsimp only [Ent.val] at hlk
      have HV := Lib.hid (HV.out.trans (show medB st.med n = e.b by unfold medB; rw [hm]))
      have hd := hI2.dat e (.inr ⟨n, hm⟩)
      obtain ⟨a, ha⟩ := hd.1.addr
      rw [ha] at hlk
      have hnil := fun (w : World) => neq_nil (P := Tryd.prog) w 24 5 (some a) 64 e.c Tryd.underlying24
      have HX := Lib.hid (⟨hd, ha⟩ : _ ∧ _)
      clear hI2 hw2 hd ha hm
      go_upto_region 4 with fail
      go_quiet (fail)
      go_wp2_with fail
      go_ret
      exact ⟨below_drewN H2.out.2.2 _, a, e.c, rfl, by rw [HV.out, ← HX.out.2]; exact HX.out.1.1⟩
    | none =>
      rw [hm] at hlk
      dsimp only at hlk
      have HV := Lib.hid (HV.out.trans (show medB st.med n = zeros by unfold medB; rw [hm]))
      have hnil := fun (w : World) => neq_nil (P := Tryd.prog) w 24 5 none 0 0 Tryd.underlying24
      have hmk := fun q => make64 (w2.drewN q)
      clear hI2 hw2 hm
      go_upto_region 4 with fail
      go_quiet (fail)
      obtain ⟨mc, hmk', hmc⟩ := hmk nq
      have HX := Lib.hid hmc
      clear hmc hmk
      go_wp2_with fail
      go_ret
      have hbw := below_drewN H2.out.2.2 nq
      refine ⟨hbw.alloc hbw.size _, some ⟨w2.heap.size, 0, none⟩, 64, rfl, by rw [HV.out]; exact row64 (heap_alloc_new (w2.drewN nq) _) HX.out (by decide) zeros_b⟩
end Go.Proofs.YtdiameckiihppaaDoor
