/-
  What is proved here: the command that lets all blocks go to the medium.
  Conditions: what the disk's blocks hold.
-/
import Derived.Test.YtdiameckiihppaaDoorSWrites
namespace Go.Proofs.YtdiameckiihppaaDoor
open Go.Proofs Go.RowKit

attribute [local go_sem] lt2 lt3 lt4 lt5

/-- all entries land -/
def syncL : List Ent → (Nat → Option Ent) → Nat → Option Ent
  | [], M => M
  | x :: xs, M => syncL xs (putM M x.n x)
def St.sync (st : St) : St := { st with med := syncL st.cache st.med, cache := [] }
theorem sync_land {st : St} {x : Ent} (h : st.cache[0]? = some x) : (st.land 0 x).sync = st.sync := by
  unfold St.sync St.land
  cases hc : st.cache with
  | nil => rw [hc] at h; simp at h
  | cons y ys =>
    rw [hc] at h
    simp only [List.getElem?_cons_zero, Option.some.injEq] at h
    subst h
    simp [syncL]

/-- how long the cache is -/
def mCache (d : Nat) (w : World) : Nat := match w.cell? ⟨d, 9, none⟩ with | some (.slice _ n _) => n | _ => 0

def SyncEnd (L : Nat → Prop) (d : Nat) (st : St) (w : World) (e : Ending) (w' : World) : Prop := e = .returned (.tuple #[.slice none 0 0, senV 0 0 0]) ∧ ChgTo L d st.sync w w'

set_option maxHeartbeats 4000000 in
set_option maxRecDepth 100000 in
theorem sync_ret (L : Nat → Prop) (d : Nat) (st : St) (O : Value) (w : World) (h : DiskAt L d st w) (hB : ∀ e ∈ st.cache, e.n < st.B) :
    Calls Tryd.prog 44 #[.pointer (some ⟨d, 0, none⟩), cmdV 53 0 0, O] w (SyncEnd L d st w) := by
  unfold cmdV
  have hb : ∀ a b, Below w.heap.size w ((w.alloc a).alloc b) := fun a b => ((Below.refl w.heap.size w).alloc (Nat.le_refl _) a).alloc (by simp) b
  have H0 := Lib.hid (⟨h, hB⟩ : _ ∧ _)
  clear h hB
  go_enter Tryd.func44, Tryd.ntmps44
  go_upto_region 1 with fail
  have c0 := alloc2_0 w (.cells #[.int .u8 53, .int .u32 0, .int .u16 0, .int .i64 0] 44 (0, 0)) (.cells #[.int .u8 0, .int .u8 0, .int .u8 0] 59 (0, 0))
  have c1 := alloc2_1 w (.cells #[.int .u8 53, .int .u32 0, .int .u16 0, .int .i64 0] 44 (0, 0)) (.cells #[.int .u8 0, .int .u8 0, .int .u8 0] 59 (0, 0))
  have hb' := hb (.cells #[.int .u8 53, .int .u32 0, .int .u16 0, .int .i64 0] 44 (0, 0)) (.cells #[.int .u8 0, .int .u8 0, .int .u8 0] 59 (0, 0))
  clear hb
  generalize ((w.alloc (.cells #[.int .u8 53, .int .u32 0, .int .u16 0, .int .i64 0] 44 (0, 0))).alloc (.cells #[.int .u8 0, .int .u8 0, .int .u8 0] 59 (0, 0))) = w2 at *
  have x1 := cell_of c0 1
  have x2 := cell_of c0 2
  have hl1 : w.heap.size + 1 < w2.heap.size := (Array.getElem?_eq_some_iff.1 c1).1
  have hdw := H0.out.1.widen hb'
  obtain ⟨k, hk⟩ : ∃ k, st.B = k := ⟨_, rfl⟩
  have y0 : w2.cell? ⟨d, 0, none⟩ = some (.int .i64 k) := by
    obtain ⟨v4, v5, v6, mb, A, c, s1, s2, s3, hI⟩ := id hdw
    rw [← hk]
    exact cell_of hI.disk 0
  have H2 := Lib.hid (⟨hdw, c0, c1, hb', hl1, hk⟩ : _ ∧ _ ∧ _ ∧ _ ∧ _ ∧ _)
  clear hdw c0 c1 hb' hl1 hk
  go_wp2_with fail
  go_loopw [9, 10] (fun i z wr => i = .int .i64 0 ∧ Hid (∃ st1, st1.sync = st.sync ∧ st1.B = k ∧ (∀ e ∈ st1.cache, e.n < k) ∧ ChgTo (Wid L w.heap.size w2.heap.size) d st1 w2 wr)) (fun _ _ wr => mCache d wr)
  case atStart => exact ⟨rfl, Lib.hid ⟨st, rfl, H2.out.2.2.2.2.2, by rw [← H2.out.2.2.2.2.2]; exact H0.out.2, H2.out.1, Kp.refl _ _⟩⟩
  case round =>
    obtain ⟨rfl, HH⟩ := hrel
    obtain ⟨st1, hs, hBk, hlt, hd1, hk1⟩ := HH.out
    obtain ⟨v4, v5, v6, mb, A, c, s1, s2, s3, hI⟩ := id hd1
    have hin : ∀ i, w.heap.size ≤ i → i < w2.heap.size → wr.heap[i]? = w2.heap[i]? := fun i h1 h2 => hk1.block i h2 (.inr ⟨h1, h2⟩)
    have r0 := (hin _ (Nat.le_refl _) (by have := H2.out.2.2.2.2.1; omega)).trans H2.out.2.1
    have hS := (hin _ (by omega) H2.out.2.2.2.2.1).trans H2.out.2.2.1
    have r1 := cell_of r0 1
    have y9 : wr.cell? ⟨d, 9, none⟩ = some (.slice A st1.cache.length c) := cell_of hI.disk 9
    have hm : mCache d wr = st1.cache.length := by unfold mCache; rw [y9]
    cases hc : st1.cache with
    | nil =>
      rw [hc] at y9
      simp only [List.length_nil] at y9
      have HX := Lib.hid (⟨hs, hc, hd1, hk1⟩ : _ ∧ _ ∧ _ ∧ _)
      clear hs hBk hlt hd1 hk1 hI hin r0 hm hc
      go_wp2_with (refine wpList_store_row rfl (.tmp 7) (.tmp 56) 59 rfl (w.heap.size + 1) 0 59 #[.int .u8 0, .int .u8 0, .int .u8 0] #[.int .u8 0, .int .u8 0, .int .u8 0] #[.int .u8 0, .int .u8 0, .int .u8 0] rfl rfl hS (by kernel_rfl) (by simp) rfl rfl ?_; intro w5 hS5 hW5)
      refine ret_tc (w.heap.size + 1) _ _ _ _ rfl rfl rfl hS5 Tryd.underlying59 rfl (by kernel_rfl) rfl ⟨rfl, ?_⟩
      obtain ⟨hs, hc, hd1, hk1⟩ := HX.out
      have hst : st1 = st.sync := by
        rw [← hs]
        unfold St.sync
        rw [hc]
        cases st1
        simp only at hc
        subst hc
        rfl
      have hin : Wid L w.heap.size w2.heap.size (w.heap.size + 1) := .inr ⟨by omega, H2.out.2.2.2.2.1⟩
      rw [← hst]
      exact ⟨(hd1.wrote hW5 hin).narrow, ((Kp.below H2.out.2.2.2.1).trans hk1.narrow).trans (Kp.wrote hW5 fun hl => by
        obtain ⟨_, _, _, _, _, _, _, _, _, hI⟩ := H0.out.1
        have := hI.lt _ hl
        omega)⟩
    | cons x xs =>
      have hx : st1.cache[0]? = some x := by rw [hc]; rfl
      have hl5 := hI.len.1
      have hxk : x.n < k := hlt x (by rw [hc]; exact List.Mem.head _)
      have hld := land_ret (Wid L w.heap.size w2.heap.size) d st1 0 x wr hd1 hx
      obtain ⟨hr1, hkc, hr3, ⟨_, h0, _⟩ | ⟨b, off, cs, rfl, hbb, hsz, hcs⟩⟩ := id hI.row
      · rw [hc] at h0; simp at h0
      have y1 : wr.cell? ⟨b, off, none⟩ = some (.int .i64 x.n) := by
        have := (cell_of hbb (off + 0)).trans ((hcs 0 (by rw [hc]; simp)).trans (flat_at _ 0 x hx).1)
        simpa using this
      obtain ⟨m, hm0⟩ : ∃ m, st1.cache.length = m := ⟨_, rfl⟩
      have hm1 : 0 < m := by rw [← hm0, hc]; simp
      rw [hm0] at y9 hkc hm
      have q1 : (0 : Int) < (m : Int) := by omega
      have q2 : (0 : Int) ≤ (c : Int) := by omega
      have q3 : (x.n : Int) < (k : Int) := by omega
      have q4 : (0 : Int) ≤ (x.n : Int) := by omega
      have HX := Lib.hid (⟨hs, hBk, hlt, hx, hk1, hm, hm0⟩ : _ ∧ _ ∧ _ ∧ _ ∧ _ ∧ _ ∧ _)
      clear hs hBk hlt hd1 hk1 hI hin r0 hm hc hx hr1 hr3 hbb hsz hcs hm0 hS
      go_wp2_with fail
      refine hld.mono ?_
      rintro e w3 ⟨rfl, hch⟩
      have HC := Lib.hid hch
      clear hch hld
      go_wp2_with fail
      go_roundw
      case rel =>
        obtain ⟨hs, hBk, hlt, hx, hk1, hm, hm0⟩ := HX.out
        refine ⟨rfl, Lib.hid ⟨st1.land 0 x, (sync_land hx).trans hs, hBk, fun e he => hlt e ?_, HC.out.1, hk1.trans HC.out.2⟩⟩
        unfold St.land at he
        rcases List.mem_append.1 he with he | he
        · exact List.mem_of_mem_take he
        · exact List.mem_of_mem_drop he
      case measure =>
        obtain ⟨hs, hBk, hlt, hx, hk1, hm, hm0⟩ := HX.out
        obtain ⟨_, _, _, _, A', c', _, _, _, hI3⟩ := HC.out.1
        have y9' : w3.cell? ⟨d, 9, none⟩ = some (.slice A' (st1.land 0 x).cache.length c') := cell_of hI3.disk 9
        have hl : (st1.land 0 x).cache.length = m - 1 := by
          unfold St.land
          dsimp only
          rw [List.length_append, List.length_take, List.length_drop, hm0]; omega
        have : mCache d w3 = m - 1 := by unfold mCache; rw [y9']; exact hl
        rw [hm, this]
        omega
end Go.Proofs.YtdiameckiihppaaDoor
