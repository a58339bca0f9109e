/-
  What is proved here: the commands that do nothing, that read a block, that write one.
  Conditions: what the disk's blocks hold.
-/
import Derived.Test.YtdiameckiihppaaDoorSRead
namespace Go.Proofs.YtdiameckiihppaaDoor
open Go.Proofs Go.RowKit

attribute [local go_sem] lt2 lt3 lt4 lt5
attribute [-go_sem] Builtin.append_

/-- a function leaves with a slot, and a struct that lies in a block of its own -/
theorem ret_tc {P : Program} {fn : Func} {p u : Tmp} {ty : TypeId} {R : Ending → World → Prop} {a : Act} {w : World} (g : Nat) (t : TypeId) (cs : Array Value) (d : TypeDesc) (v : Value) (hres : fn.results = #[.tmp u, .cell p ty])
    (hp : a.tmps.getD p undef = .pointer (some ⟨g, 0, none⟩)) (hu : a.tmps.getD u undef = v) (hg : w.heap[g]? = some (.cells cs t (0, 0))) (hty : P.underlying ty = some d) (hd : (match d with | .struct _ | .array _ _ => true | _ => false) = true)
    (hi : (P.info? ty).map (·.size) = some cs.size) (hde : a.defers = []) (hR : R (.returned (.tuple #[v, .agg cs])) w) : bodyPost P fn R .ret a w := by
  refine bodyPost_ret_by ?_ hde hR
  have hr : (results fn a.tmps).run P w = ((asAddr (a.tmps.getD p undef)).run P w).andThen fun a₁ w₁ => ((loadVar ty a₁).run P w₁).andThen fun v w₂ => .ok (.tuple #[a.tmps.getD u undef, v]) w₂ := by
    simp only [results, hres]
    simp [Sem.run_bind, Result.andThen]
  rw [hr, hp, hu]
  have := run_loadVar_row (P := P) w g t ty cs (0, 0) d hg hty hd hi
  simp [asAddr, this]

/-- a command -/
def cmdV (op n c : Int) : Value := .agg #[.int .u8 op, .int .u32 n, .int .u16 c, .int .i64 0]
def senV (a b c : Int) : Value := .agg #[.int .u8 a, .int .u8 b, .int .u8 c]

def ReadsEnd (xs : List Int) (w : World) (e : Ending) (w' : World) : Prop := Below w.heap.size w w' ∧ ∃ A c, e = .returned (.tuple #[.slice A 64 c, senV 0 0 0]) ∧ RowB w' A 64 c xs

theorem none_ret (x : Value) (O : Value) (w : World) :
    Calls Tryd.prog 38 #[x, cmdV 0 0 0, O] w fun e w' => e = .returned (.tuple #[.slice none 0 0, senV 0 0 0]) ∧ Below w.heap.size w w' := by
  unfold cmdV senV
  have hb : ∀ a b, Below w.heap.size w ((w.alloc a).alloc b) := fun a b => ((Below.refl w.heap.size w).alloc (Nat.le_refl _) a).alloc (by simp) b
  go_enter Tryd.func38, Tryd.ntmps38
  go_wp2_with fail
  exact ret_tc (w.heap.size + 1) _ _ _ _ rfl rfl rfl (alloc2_1 w _ _) Tryd.underlying59 rfl (by kernel_rfl) rfl ⟨rfl, hb _ _⟩

set_option maxHeartbeats 4000000 in
set_option maxRecDepth 100000 in
theorem reads_ret (L : Nat → Prop) (d : Nat) (st : St) (n : Nat) (O : Value) (w : World) (h : DiskAt L d st w) (hn : n < 65536) :
    Calls Tryd.prog 42 #[.pointer (some ⟨d, 0, none⟩), cmdV 40 n 1, O] w (ReadsEnd (st.val n) w) := by
  unfold cmdV
  have hb : ∀ a b, Below w.heap.size w ((w.alloc a).alloc b) := fun a b => ((Below.refl w.heap.size w).alloc (Nat.le_refl _) a).alloc (by simp) b
  have hrd := fun a b => read_ret L d st n ((w.alloc a).alloc b) (by
    obtain ⟨_, _, _, _, _, _, _, _, _, hI⟩ := h
    exact ⟨_, _, _, _, _, _, _, _, _, hI.below (hb a b)⟩)
  clear h
  go_enter Tryd.func42, Tryd.ntmps42
  go_upto_region 2 with fail
  have c0 := alloc2_0 w (.cells #[.int .u8 40, .int .u32 n, .int .u16 1, .int .i64 0] 44 (0, 0)) (.cells #[.int .u8 0, .int .u8 0, .int .u8 0] 59 (0, 0))
  have c1 := alloc2_1 w (.cells #[.int .u8 40, .int .u32 n, .int .u16 1, .int .i64 0] 44 (0, 0)) (.cells #[.int .u8 0, .int .u8 0, .int .u8 0] 59 (0, 0))
  have hrd' := hrd (.cells #[.int .u8 40, .int .u32 n, .int .u16 1, .int .i64 0] 44 (0, 0)) (.cells #[.int .u8 0, .int .u8 0, .int .u8 0] 59 (0, 0))
  have hb' := hb (.cells #[.int .u8 40, .int .u32 n, .int .u16 1, .int .i64 0] 44 (0, 0)) (.cells #[.int .u8 0, .int .u8 0, .int .u8 0] 59 (0, 0))
  clear hrd hb
  generalize ((w.alloc (.cells #[.int .u8 40, .int .u32 n, .int .u16 1, .int .i64 0] 44 (0, 0))).alloc (.cells #[.int .u8 0, .int .u8 0, .int .u8 0] 59 (0, 0))) = w2 at *
  have x1 := cell_of c0 1
  have x2 := cell_of c0 2
  have hl1 : w.heap.size + 1 < w2.heap.size := (Array.getElem?_eq_some_iff.1 c1).1
  have H2 := Lib.hid (⟨c0, c1, hb', hl1⟩ : _ ∧ _ ∧ _ ∧ _)
  clear c0 c1 hb' hl1
  go_wp2_with fail
  go_loopw [8, 13] (fun v i wr => (v = .slice none 0 0 ∧ i = .int .i64 0 ∧ wr = w2) ∨ (i = .int .i64 1 ∧ Hid (Below w.heap.size w wr ∧ wr.heap[w.heap.size + 1]? = some (.cells #[.int .u8 0, .int .u8 0, .int .u8 0] 59 (0, 0)) ∧ ∃ A c, v = .slice A 64 c ∧ RowB wr A 64 c (st.val n)))) (fun _ i _ => 1 - (intOf i).toNat)
  case atStart => exact .inl ⟨rfl, rfl, rfl⟩
  case round =>
    rcases hrel with ⟨rfl, rfl, rfl⟩ | ⟨rfl, HH⟩
    · go_wp2_with fail
      refine hrd'.mono ?_
      rintro e w3 ⟨hb3, A, c, rfl, hR3⟩
      obtain ⟨A', c', w4, hrun, hR4, hef⟩ := rowb_append (w := w3) (A := none) (B := A) (n := 0) (c := 0) (m := 64) (d := c) (xs := []) (ys := st.val n) ⟨RowAt.nil _ _, fun _ h => nomatch h⟩ hR3.u8 (by omega)
      rw [Nat.zero_add] at hrun hR4
      rw [List.nil_append] at hR4
      have hb4 : Below w3.heap.size w3 w4 := by
        rcases hef with ⟨rfl, _⟩ | (⟨_, a, h, _⟩ | ⟨hg, _⟩)
        · exact Below.refl _ _
        · cases h
        · exact (Below.refl _ _).grown hg (Nat.le_refl _) (fun k hk => by cases hk)
      have HB := Lib.hid (⟨hb3, hb4, hR4⟩ : _ ∧ _ ∧ _)
      clear hb3 hb4 hR4 hef hR3
      go_wp2_with fail
      go_roundw
      case rel =>
        have hb34 := HB.out.1.trans (HB.out.2.1.mono HB.out.1.size)
        exact .inr ⟨rfl, Lib.hid ⟨H2.out.2.2.1.trans (hb34.mono H2.out.2.2.1.size), (hb34.block _ H2.out.2.2.2).trans H2.out.2.1, A', c', rfl, HB.out.2.2⟩⟩
      case measure => simp [intOf]
    · obtain ⟨A, c, rfl, hR⟩ := HH.out.2.2
      have hS := HH.out.2.1
      have HR := Lib.hid hR
      clear hR
      go_wp2_with (refine wpList_store_row rfl (.tmp 7) (.tmp 27) 59 rfl (w.heap.size + 1) 0 59 #[.int .u8 0, .int .u8 0, .int .u8 0] #[.int .u8 0, .int .u8 0, .int .u8 0] #[.int .u8 0, .int .u8 0, .int .u8 0] rfl rfl hS (by kernel_rfl) (by simp) rfl rfl ?_; intro w5 hS5 hW5)
      refine ret_tc (w.heap.size + 1) _ _ _ _ rfl rfl rfl hS5 Tryd.underlying59 rfl (by kernel_rfl) rfl ⟨HH.out.1.trans ((hW5.below (Nat.le_refl _)).mono ?_), A, c, rfl, HR.out.keep fun a ea => hW5.other _ (HR.out.ne (fun cs hc => ?_) a ea)⟩
      · omega
      · rw [hS] at hc; simp at hc
end Go.Proofs.YtdiameckiihppaaDoor
