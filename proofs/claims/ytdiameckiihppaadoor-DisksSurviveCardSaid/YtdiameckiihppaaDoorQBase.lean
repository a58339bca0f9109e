/-
  What is proved here: what the packages' own 'clone' returns; blocks made three and more deep; slices of slices.
  Conditions: what the slices' cells hold.
-/
import Derived.Test.YtdiameckiihppaaDoorOWords
import Derived.Laws.AppendOwn
import Derived.Laws.AppendOwnNone
import Derived.Laws.MakeOwn
import Derived.Laws.NewBlocks
import Derived.OwnWalk
import Derived.WalkKit
import Derived.Lib.SliceRun
import Derived.RegionTactic
import Derived.Deep.QuietTactic
import Derived.BigQuiet
import Derived.Deep.DeepCutAuto
import Derived.Deep.CutRange
namespace Go.Proofs.YtdiameckiihppaaDoor
open Go.Proofs Go.RowKit

theorem lt2 (n : Nat) : (n < n + 1 + 1) = True := by simp; omega
theorem lt3 (n : Nat) : (n < n + 1 + 1 + 1) = True := by simp; omega
theorem lt4 (n : Nat) : (n < n + 1 + 1 + 1 + 1) = True := by simp; omega
theorem lt5 (n : Nat) : (n < n + 1 + 1 + 1 + 1 + 1) = True := by simp; omega

theorem info5 : (Tryd.prog.info? 5).map (fun i => (i.zero, i.size, i.bytes)) = some (some (.int .u8 0), 1, 1) := by kernel_rfl

/-- a block of bytes that begins with a list -/
def F8 (w : World) (g n c : Nat) (xs : List Int) : Prop :=
  xs.length = n ∧ (∀ x ∈ xs, 0 ≤ x ∧ x ≤ 255) ∧ n ≤ c ∧ ∃ cs : Array Value, w.heap[g]? = some (.cells cs 5 (0, 0)) ∧ ∀ j, j < n → cs[j]? = some (.int .u8 (xs[j]?.getD 0))
theorem F8.u8 {w : World} {g n c : Nat} {xs : List Int} (h : F8 w g n c xs) : U8 w (some ⟨g, 0, none⟩) n c xs := by
  obtain ⟨h1, h2, h3, cs, h4, h5⟩ := h
  refine ⟨h1, h2, h3, .inr ⟨_, rfl, fun j hj => ?_⟩⟩
  rw [show (⟨g, 0, none⟩ : Addr).add j = ⟨g, j, none⟩ by unfold Addr.add; split <;> simp_all]
  unfold World.cell?
  rw [h4]
  exact h5 j hj
theorem F8.heap {w w' : World} {g n c : Nat} {xs : List Int} (h : F8 w g n c xs) (he : ∀ o, w.heap[g]? = some o → w'.heap[g]? = some o) : F8 w' g n c xs := by
  obtain ⟨h1, h2, h3, cs, h4, h5⟩ := h
  exact ⟨h1, h2, h3, cs, he _ h4, h5⟩
theorem F8.below {w w' : World} {g n c : Nat} {xs : List Int} (h : F8 w g n c xs) (hb : Below w.heap.size w w') : F8 w' g n c xs :=
  h.heap fun _ ho => (hb.block g (Array.getElem?_eq_some_iff.1 ho).1).trans ho

/-- a list of its own, new -/
def Copied (w : World) (xs : List Int) (e : Ending) (w' : World) : Prop :=
  ∃ g c, e = .returned (.slice (some ⟨g, 0, none⟩) xs.length c) ∧ F8 w' g xs.length c xs ∧ w.heap.size ≤ g ∧ Below w.heap.size w w'

theorem f8_of_own {w : World} {base n : Nat} {v : Value} {xs : List Int} (hr : ∀ x ∈ xs, 0 ≤ x ∧ x ≤ 255) (h : w.ownsRow base 5 1 v n (xs.map (Value.int .u8))) (hv : v ≠ .slice none 0 0) :
    ∃ g zn cap, v = .slice (some ⟨g, 0, none⟩) zn cap ∧ base ≤ g ∧ F8 w g zn cap xs := by
  have hn : n = xs.length := by have := h.1; simp at this; omega
  subst hn
  rcases h.2 with ⟨rfl, _⟩ | ⟨g, cap, cur, rfl, hg, hh, hcap, _⟩
  · exact absurd rfl hv
  · refine ⟨g, _, cap, rfl, hg, rfl, hr, hcap, cur, hh, fun j hj => ?_⟩
    have hc := h.cellAt j (by simpa using hj)
    unfold World.cell? at hc
    rw [hh] at hc
    simpa [List.getElem?_eq_getElem hj] using hc

theorem made_own {n : Nat} (hn : n ≤ 65536) : ∃ mc : Array Value, (∀ w : World, (Instr.makeSlice 24 (.int .i64 0) (.int .i64 (n : Int))).run Tryd.prog w = .ok (.slice (some ⟨w.heap.size, 0, none⟩) 0 n) (w.alloc (.cells mc 5))) ∧ mc.size = n * 1 := by
  obtain ⟨i0, hi, hz0, hz1, hz2⟩ := info_parts info5
  refine ⟨madeCells (Value.int .u8 0).cells (n * 1), fun w => ?_, ?_⟩
  · have h := run_makeSlice (P := Tryd.prog) w 24 5 i0 (.int .u8 0) Tryd.underlying24 hi hz0 .i64 .i64 0 n (Int.le_refl _) (by omega) (by rw [hz1]; simp; omega) (by rw [hz2]; omega) (by omega)
    rw [hz1] at h
    simpa using h
  · exact size_madeCells _ _

end Go.Proofs.YtdiameckiihppaaDoor
