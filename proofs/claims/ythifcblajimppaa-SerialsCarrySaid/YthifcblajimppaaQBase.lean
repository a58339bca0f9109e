/-
  What is proved here: what the packages' own 'clone' returns; blocks made three and more deep; slices of slices.
  Conditions: what the slices' cells hold.
-/
import Derived.Test.YthifcblajimppaaOWords
import Derived.Laws.AppendOwn
import Derived.Laws.AppendOwnNone
import Derived.Laws.MakeOwn
import Derived.Laws.NewBlocks
import Derived.OwnWalk
import Derived.WalkKit
import Derived.Lib.SliceRun
import Derived.RegionTactic
import Derived.Deep.QuietTactic
import Derived.BigQuiet
import Derived.Deep.DeepCutAuto
import Derived.Deep.CutRange
namespace Go.Proofs.Ythifcblajimppaa
open Go.Proofs Go.RowKit
theorem lt2 (n : Nat) : (n < n + 1 + 1) = True := by simp; omega
theorem lt3 (n : Nat) : (n < n + 1 + 1 + 1) = True := by simp; omega
theorem lt4 (n : Nat) : (n < n + 1 + 1 + 1 + 1) = True := by simp; omega
theorem lt5 (n : Nat) : (n < n + 1 + 1 + 1 + 1 + 1) = True := by simp; omega
theorem info5 : (Try.prog.info? 5).map (fun i => (i.zero, i.size, i.bytes)) = some (some (.int .u8 0), 1, 1) := by kernel_rfl
def F8 (w : World) (g n c : Nat) (xs : List Int) : Prop :=
 xs.length = n ∧ (∀ x ∈ xs, 0 ≤ x ∧ x ≤ 255) ∧ n ≤ c ∧ ∃ cs : Array Value, w.heap[g]? = some (.cells cs 5 (0, 0)) ∧ ∀ j, j < n → cs[j]? = some (.int .u8 (xs[j]?.getD 0))
theorem F8.u8 {w : World} {g n c : Nat} {xs : List Int} (h : F8 w g n c xs) : U8 w (some ⟨g, 0, none⟩) n c xs := by
 obtain ⟨h1, h2, h3, cs, h4, h5⟩ := h
 refine ⟨h1, h2, h3, .inr ⟨_, rfl, fun j hj => ?_⟩⟩
 rw [show (⟨g, 0, none⟩ : Addr).add j = ⟨g, j, none⟩ by unfold Addr.add; split <;> simp_all]
 unfold World.cell?
 rw [h4]
 exact h5 j hj
theorem F8.heap {w w' : World} {g n c : Nat} {xs : List Int} (h : F8 w g n c xs) (he : ∀ o, w.heap[g]? = some o → w'.heap[g]? = some o) : F8 w' g n c xs := by
 obtain ⟨h1, h2, h3, cs, h4, h5⟩ := h
 exact ⟨h1, h2, h3, cs, he _ h4, h5⟩
theorem F8.below {w w' : World} {g n c : Nat} {xs : List Int} (h : F8 w g n c xs) (hb : Below w.heap.size w w') : F8 w' g n c xs :=
 h.heap fun _ ho => (hb.block g (Array.getElem?_eq_some_iff.1 ho).1).trans ho
def Copied (w : World) (xs : List Int) (e : Ending) (w' : World) : Prop :=
 ∃ g c, e = .returned (.slice (some ⟨g, 0, none⟩) xs.length c) ∧ F8 w' g xs.length c xs ∧ w.heap.size ≤ g ∧ Below w.heap.size w w'
theorem f8_of_own {w : World} {base n : Nat} {v : Value} {xs : List Int} (hr : ∀ x ∈ xs, 0 ≤ x ∧ x ≤ 255) (h : w.ownsRow base 5 1 v n (xs.map (Value.int .u8))) (hv : v ≠ .slice none 0 0) :
  ∃ g zn cap, v = .slice (some ⟨g, 0, none⟩) zn cap ∧ base ≤ g ∧ F8 w g zn cap xs := by
 have hn : n = xs.length := by have := h.1; simp at this; omega
 subst hn
 rcases h.2 with ⟨rfl, _⟩ | ⟨g, cap, cur, rfl, hg, hh, hcap, _⟩
 ·exact absurd rfl hv
 ·refine ⟨g, _, cap, rfl, hg, rfl, hr, hcap, cur, hh, fun j hj => ?_⟩
  have hc := h.cellAt j (by simpa using hj)
  unfold World.cell? at hc
  rw [hh] at hc
  simpa [List.getElem?_eq_getElem hj] using hc
theorem made_own {n : Nat} (hn : n ≤ 65536) : ∃ mc : Array Value, (∀ w : World, (Instr.makeSlice 33 (.int .i64 0) (.int .i64 (n : Int))).run Try.prog w = .ok (.slice (some ⟨w.heap.size, 0, none⟩) 0 n) (w.alloc (.cells mc 5))) ∧ mc.size = n * 1 := by
 obtain ⟨i0, hi, hz0, hz1, hz2⟩ := info_parts info5
 refine ⟨madeCells (Value.int .u8 0).cells (n * 1), fun w => ?_, ?_⟩
 ·have h := run_makeSlice (P := Try.prog) w 33 5 i0 (.int .u8 0) Try.underlying33 hi hz0 .i64 .i64 0 n (Int.le_refl _) (by omega) (by rw [hz1]; simp; omega) (by rw [hz2]; omega) (by omega)
  rw [hz1] at h
  simpa using h
 ·exact size_madeCells _ _
set_option maxHeartbeats 2000000 in
set_option maxRecDepth 100000 in
theorem clone_x (A : Option Addr) (n c : Nat) (xs : List Int) (w : World) (hx : U8 w A n c xs) (hn : n ≤ 65536) :
  Calls Try.prog 40 #[.slice A n c] w (Copied w xs) := by
 obtain ⟨i0, hi, hz0, hz1, hz2⟩ := info_parts info5
 obtain ⟨mc, hmk, hmc⟩ := made_own hn
 obtain ⟨h1, h2, h3, h4⟩ := hx
 rcases h4 with ⟨rfl, rfl, rfl⟩ | ⟨a, rfl, h5⟩
 ·have hz := List.length_eq_zero_iff.1 h1
  subst hz
  have hmk0 : ∀ w : World, (Instr.makeSlice 33 (.int .i64 0) (.int .i64 0)).run Try.prog w = .ok (.slice (some ⟨w.heap.size, 0, none⟩) 0 0) (w.alloc (.cells mc 5)) := hmk
  clear hmk
  go_enter Try.func40, Try.ntmps40
  go_wp2_with (at_builtin; refine wpList_append_own_none rfl (.tmp 5) (.tmp 6) 33 rfl w.heap.size 5 i0 1 Try.underlying33 hi _ 0 [] rfl (World.ownsRow_made w mc 0 (Nat.le_refl _) (by decide) hmc) rfl ?_)
  go_ret
  exact ⟨w.heap.size, 0, rfl, ⟨rfl, h2, Nat.le_refl _, mc, heap_alloc_new w _, fun j hj => absurd hj (by simp)⟩, Nat.le_refl _, (Below.refl _ _).alloc (Nat.le_refl _) _⟩
 ·have HX := Lib.hid h5
  clear h5
  go_enter Try.func40, Try.ntmps40
  go_wp2_with (at_builtin; refine wpList_append_own _ rfl (.tmp 5) (.tmp 6) 33 rfl w.heap.size 5 i0 (.int .u8 0) 1 1 Try.underlying33 hi hz0 hz1 hz2 rfl (by decide) _ 0 [] rfl ?own a n c (xs.map (Value.int .u8)) rfl ?c1 ?c2 ?c3 ?c4 ?c5 ?c6 ?_)
  case own => exact World.ownsRow_made w mc n (Nat.le_refl _) (by unfold maxLen; omega) hmc
  case c1 => simp [h1]
  case c2 =>
   intro j u hj
   rw [List.getElem?_map, Option.map_eq_some_iff] at hj
   obtain ⟨x, hx, rfl⟩ := hj
   have hjn : j < n := by rw [← h1]; exact (List.getElem?_eq_some_iff.1 hx).1
   have hcx := HX.out j hjn
   rw [hx] at hcx
   rw [World.cell?_alloc_lt _ _ _ (World.block_lt_of_cell? _ _ hcx)]
   exact hcx
  case c3 =>
   intro u hu
   obtain ⟨x, _, rfl⟩ := List.mem_map.1 hu
   rfl
  case c4 => unfold maxLen; omega
  case c5 => omega
  case c6 => simp
  intro v' w1 hown hgrow hnn
  have hb1 : Below w.heap.size w w1 := ((Below.refl _ _).alloc (Nat.le_refl _) _).grown hgrow (by simp) (fun k hk => by simp [Value.ownBlock] at hk; omega)
  have hv : v' ≠ .slice none 0 0 := hnn
  obtain ⟨g, zn, cap, rfl, hg, hu⟩ := f8_of_own h2 hown hv
  clear hown hgrow hnn hv hmk
  go_wp2
  go_ret
  exact ⟨g, cap, by rw [hu.1]; rfl, by rw [hu.1]; exact hu, hg, hb1⟩
end Go.Proofs.Ythifcblajimppaa
