/-
  What is proved here: decode returns the command of the law's bytes.
  Conditions: what Decode returns; what the disk's blocks hold.
-/
import Derived.Test.YtdiameckiihppaaDoorSSync
namespace Go.Proofs.YtdiameckiihppaaDoor
open Go.Proofs Go.RowKit

attribute [local go_sem] lt2 lt3 lt4 lt5

def DcdEnd (op n c : Int) (w : World) (e : Ending) (w' : World) : Prop := Below w.heap.size w w' ∧ e = .returned (.tuple #[cmdV op n c, senV 0 0 0])
def CmdEnd (op n c : Int) (w : World) (e : Ending) (w' : World) : Prop := Below w.heap.size w w' ∧ e = .returned (.tuple #[cmdV op n c, .int .i64 0])

/-- a function leaves with two structs that lie in blocks of their own -/
theorem ret_cc {P : Program} {fn : Func} {p q : Tmp} {ty ty' : TypeId} {R : Ending → World → Prop} {a : Act} {w : World} (g g' : Nat) (t t' : TypeId) (cs cs' : Array Value) (d d' : TypeDesc) (hres : fn.results = #[.cell p ty, .cell q ty'])
    (hp : a.tmps.getD p undef = .pointer (some ⟨g, 0, none⟩)) (hq : a.tmps.getD q undef = .pointer (some ⟨g', 0, none⟩))
    (hg : w.heap[g]? = some (.cells cs t (0, 0))) (hty : P.underlying ty = some d) (hd : (match d with | .struct _ | .array _ _ => true | _ => false) = true) (hi : (P.info? ty).map (·.size) = some cs.size)
    (hg' : w.heap[g']? = some (.cells cs' t' (0, 0))) (hty' : P.underlying ty' = some d') (hd' : (match d' with | .struct _ | .array _ _ => true | _ => false) = true) (hi' : (P.info? ty').map (·.size) = some cs'.size) (hde : a.defers = [])
    (hR : R (.returned (.tuple #[.agg cs, .agg cs'])) w) : bodyPost P fn R .ret a w := by
  refine bodyPost_ret_by ?_ hde hR
  have h1 := run_loadVar_row (P := P) w g t ty cs (0, 0) d hg hty hd hi
  have h2 := run_loadVar_row (P := P) w g' t' ty' cs' (0, 0) d' hg' hty' hd' hi'
  have hr : (results fn a.tmps).run P w = ((asAddr (a.tmps.getD p undef)).run P w).andThen fun a₁ w₁ => ((loadVar ty a₁).run P w₁).andThen fun v w₂ => ((asAddr (a.tmps.getD q undef)).run P w₂).andThen fun a₂ w₃ => ((loadVar ty' a₂).run P w₃).andThen fun v' w₄ => .ok (.tuple #[v, v']) w₄ := by
    simp only [results, hres]
    simp [Sem.run_bind, Result.andThen]
  rw [hr, hp, hq]
  simp [asAddr, h1, h2]

set_option maxHeartbeats 4000000 in
set_option maxRecDepth 100000 in
theorem decode_ret (L : Nat → Prop) (d : Nat) (st : St) (op : Int) (n c : Nat) (b : Value) (w : World) (h : DiskAt L d st w) (hn : n + c ≤ st.B) (hc : c ≤ 1) (hdec : ∀ w', Below w.heap.size w w' → Calls Tryd.prog 51 #[b] w' (CmdEnd op n c w')) :
    Calls Tryd.prog 37 #[.pointer (some ⟨d, 0, none⟩), b] w (DcdEnd op n c w) := by
  have hb : ∀ a b, Below w.heap.size w ((w.alloc a).alloc b) := fun a b => ((Below.refl w.heap.size w).alloc (Nat.le_refl _) a).alloc (by simp) b
  obtain ⟨k, hk⟩ : ∃ k, st.B = k := ⟨_, rfl⟩
  have hk16 : k ≤ 16 := by
    obtain ⟨_, _, _, _, _, _, _, _, _, hI⟩ := h
    have := hI.len; omega
  have hnk : n + c ≤ k := hk ▸ hn
  have H0 := Lib.hid (⟨h, hk⟩ : _ ∧ _)
  clear h hn hk
  go_enter Tryd.func37, Tryd.ntmps37
  go_upto_region 1 with fail
  have c0 := alloc2_0 w (.cells #[.int .u8 0, .int .u32 0, .int .u16 0, .int .i64 0] 44 (0, 0)) (.cells #[.int .u8 0, .int .u8 0, .int .u8 0] 59 (0, 0))
  have c1 := alloc2_1 w (.cells #[.int .u8 0, .int .u32 0, .int .u16 0, .int .i64 0] 44 (0, 0)) (.cells #[.int .u8 0, .int .u8 0, .int .u8 0] 59 (0, 0))
  have hb' := hb (.cells #[.int .u8 0, .int .u32 0, .int .u16 0, .int .i64 0] 44 (0, 0)) (.cells #[.int .u8 0, .int .u8 0, .int .u8 0] 59 (0, 0))
  clear hb
  generalize ((w.alloc (.cells #[.int .u8 0, .int .u32 0, .int .u16 0, .int .i64 0] 44 (0, 0))).alloc (.cells #[.int .u8 0, .int .u8 0, .int .u8 0] 59 (0, 0))) = w2 at *
  have hdc := hdec w2 hb'
  have H2 := Lib.hid (⟨c0, c1, hb'⟩ : _ ∧ _ ∧ _)
  clear c0 c1 hb' hdec
  go_wp2_with fail
  refine hdc.mono ?_
  rintro e w3 ⟨hb3, rfl⟩
  unfold cmdV
  have HB3 := Lib.hid hb3
  clear hb3 hdc
  go_upto_region 4 with fail
  have hX := heap_alloc_new w3 (.cells #[.int .u8 op, .int .u32 n, .int .u16 c, .int .i64 0] 44 (0, 0))
  have hb4 : Below w3.heap.size w3 (w3.alloc (.cells #[.int .u8 op, .int .u32 n, .int .u16 c, .int .i64 0] 44 (0, 0))) := (Below.refl _ _).alloc (Nat.le_refl _) _
  generalize w3.alloc (.cells #[.int .u8 op, .int .u32 n, .int .u16 c, .int .i64 0] 44 (0, 0)) = w4 at *
  have hw4 : Below w.heap.size w w4 := H2.out.2.2.trans ((HB3.out.trans (hb4.mono HB3.out.size)).mono H2.out.2.2.size)
  have hw24 : Below w2.heap.size w2 w4 := HB3.out.trans (hb4.mono HB3.out.size)
  have y0 : w4.cell? ⟨d, 0, none⟩ = some (.int .i64 k) := by
    obtain ⟨v4, v5, v6, mb, A, c, s1, s2, s3, hI⟩ := H0.out.1.below hw4
    rw [← H0.out.2]
    exact cell_of hI.disk 0
  have z1 := cell_of hX 1
  have z2 := cell_of hX 2
  have hA0 : w4.heap[w.heap.size]? = _ := (hw24.block _ (Array.getElem?_eq_some_iff.1 H2.out.1).1).trans H2.out.1
  have hA1 : w4.heap[w.heap.size + 1]? = _ := (hw24.block _ (Array.getElem?_eq_some_iff.1 H2.out.2.1).1).trans H2.out.2.1
  have hne : w.heap.size ≠ w3.heap.size ∧ w.heap.size + 1 ≠ w3.heap.size := by
    have h1 := (Array.getElem?_eq_some_iff.1 H2.out.2.1).1
    have h2 := HB3.out.size
    omega
  have HH := Lib.hid (⟨hX, hw4, hA0, hA1, hne⟩ : _ ∧ _ ∧ _ ∧ _ ∧ _)
  clear hX hb4 hw4 hw24 hA0 hA1 hne
  have q1 : decide (k < n + c) = false := by simp; omega
  have q2 : decide ((k : Int) < (n : Int) + (c : Int)) = false := by simp; omega
  go_quiet (fail)
  obtain ⟨hX, hw4, hA0, hA1, hne⟩ := HH.out
  obtain ⟨w5, hw5⟩ : ∃ w5, w4.drewN nq = w5 := ⟨_, rfl⟩
  have hX5 : w5.heap[w3.heap.size]? = some (.cells #[.int .u8 op, .int .u32 n, .int .u16 c, .int .i64 0] 44 (0, 0)) := by rw [← hw5]; exact hX
  have hA5 : w5.heap[w.heap.size]? = some (.cells #[.int .u8 0, .int .u32 0, .int .u16 0, .int .i64 0] 44 (0, 0)) := by rw [← hw5]; exact hA0
  have hB5 : w5.heap[w.heap.size + 1]? = some (.cells #[.int .u8 0, .int .u8 0, .int .u8 0] 59 (0, 0)) := by rw [← hw5]; exact hA1
  have hw45 : Below w.heap.size w w5 := by rw [← hw5]; exact below_drewN hw4 nq
  rw [hw5]
  have HF := Lib.hid (⟨hw45, hne⟩ : _ ∧ _)
  clear hX hw4 hA0 hA1 hne hw5 hw45 HH y0 z1 z2
  go_upto_region 6 with fail
  go_wp2_with (first
    | refine wpList_load_row rfl (.tmp 6) 44 rfl w3.heap.size 44 _ _ rfl hX5 Tryd.underlying44 rfl (by kernel_rfl) ?_
    | (refine wpList_store_row rfl (.tmp 4) (.tmp 35) 44 rfl w.heap.size 0 44 _ _ #[.int .u8 op, .int .u32 n, .int .u16 c, .int .i64 0] rfl rfl hA5 (by kernel_rfl) (by simp) rfl rfl ?_; intro w6 hX6 hW6; have hB6 := (hW6.other (w.heap.size + 1) (by omega)).trans hB5)
    | (refine wpList_store_row rfl (.tmp 5) (.tmp 36) 59 rfl (w.heap.size + 1) 0 59 _ _ #[.int .u8 0, .int .u8 0, .int .u8 0] rfl rfl hB6 (by kernel_rfl) (by simp) rfl rfl ?_; intro w7 hX7 hW7))
  refine ret_cc w.heap.size (w.heap.size + 1) _ _ _ _ _ _ rfl rfl rfl ((hW7.other _ (by omega)).trans hX6) Tryd.underlying44 rfl (by kernel_rfl) hX7 Tryd.underlying59 rfl (by kernel_rfl) rfl ⟨(HF.out.1.trans (hW6.below (Nat.le_refl _))).trans (hW7.below (by omega)), rfl⟩
end Go.Proofs.YtdiameckiihppaaDoor
