/-
  What is proved here: New returns an empty disk; the law's configuration.
  Conditions: the tables of commands are laid.
-/
import Derived.Test.YtdiameckiihppaaDoorSOps
import Derived.WalkKit
namespace Go.Proofs.YtdiameckiihppaaDoor
open Go.Proofs Go.RowKit Go.Sy

attribute [local go_sem] lt2 lt3 lt4 lt5

/-- a configuration -/
def cfgC (B C : Nat) : Array Value := #[.int .i64 B, .int .i64 64, .int .i64 C, .bool false, .string ⟨#[86]⟩, .string ⟨#[80]⟩, .string ⟨#[82]⟩, .bool false]
def st0 (B C : Nat) : St := ⟨B, C, fun _ => none, [], true⟩

theorem ret_one {P : Program} {fn : Func} {p : Tmp} {ty : TypeId} {R : Ending → World → Prop} {a : Act} {w : World} (g : Nat) (t : TypeId) (cs : Array Value) (d : TypeDesc) (hres : fn.results = #[.cell p ty])
    (hp : a.tmps.getD p undef = .pointer (some ⟨g, 0, none⟩)) (hg : w.heap[g]? = some (.cells cs t (0, 0))) (hty : P.underlying ty = some d) (hd : (match d with | .struct _ | .array _ _ => true | _ => false) = true)
    (hi : (P.info? ty).map (·.size) = some cs.size) (hde : a.defers = []) (hR : R (.returned (.agg cs)) w) : bodyPost P fn R .ret a w := by
  refine bodyPost_ret_by ?_ hde hR
  exact results_cell_row hres _ w g t cs (0, 0) d hp hg hty hd hi

set_option maxRecDepth 100000 in
theorem of_ret (b c : Int) (w : World) (hb : 0 ≤ b ∧ b ≤ 255) (hc : 0 ≤ c ∧ c ≤ 255) :
    Calls Tryd.prog 5 #[.agg #[.int .u8 b, .int .u8 c, .bool false]] w fun e w' => e = .returned (.agg (cfgC (1 + b % 16).toNat (c % 6).toNat)) ∧ Below w.heap.size w w' := by
  go_enter Tryd.func5, Tryd.ntmps5
  go_wp2_with fail
  have e1 : (((1 + b % 16).toNat : Nat) : Int) = 1 + b % 16 := by omega
  have e2 : (((c % 6).toNat : Nat) : Int) = c % 6 := by omega
  refine ret_one (w.heap.size + 1) _ _ _ rfl rfl (alloc2_1 w _ _) Tryd.underlying32 rfl (by kernel_rfl) rfl ⟨?_, ((Below.refl w.heap.size w).alloc (Nat.le_refl _) _).alloc (by simp) _⟩
  unfold cfgC
  rw [e1, e2]

def NewEnd (B C : Nat) (w : World) (e : Ending) (w' : World) : Prop := Below w.heap.size w w' ∧ ∃ d, e = .returned (.tuple #[.pointer (some ⟨d, 0, none⟩), .int .i64 0]) ∧ ∀ L : Nat → Prop, (∀ i, L i → i < w.heap.size) → DiskAt L d (st0 B C) w'

set_option maxHeartbeats 4000000 in
set_option maxRecDepth 100000 in
theorem new_ret (B C : Nat) (w : World) (hB : 1 ≤ B ∧ B ≤ 16) (hC : C ≤ 5) (hL : LaidW w dG) :
    Calls Tryd.prog 6 #[.agg (cfgC B C)] w (NewEnd B C w) := by
  have hb0 : ∀ o, Below w.heap.size w (w.alloc o) := fun o => (Below.refl w.heap.size w).alloc (Nat.le_refl _) o
  have hq := fun o => inq_ret (w.alloc o) (laid_bel hL (hb0 o))
  unfold inqV at hq
  unfold cfgC
  have q1 : ¬ (B : Int) < 1 := by omega
  have q2 : ¬ (4096 : Int) < (B : Int) := by omega
  have q3 : ¬ (C : Int) < 0 := by omega
  have q4 : ¬ (64 : Int) < (C : Int) := by omega
  clear hL
  go_enter Tryd.func6, Tryd.ntmps6
  go_upto_region 3 with fail
  have hq := hq (.cells (cfgC B C) 32 (0, 0))
  have hX := heap_alloc_new w (.cells (cfgC B C) 32 (0, 0))
  have hb1 := hb0 (.cells (cfgC B C) 32 (0, 0))
  unfold cfgC at hq hX hb1
  generalize w.alloc (.cells #[.int .i64 B, .int .i64 64, .int .i64 C, .bool false, .string ⟨#[86]⟩, .string ⟨#[80]⟩, .string ⟨#[82]⟩, .bool false] 32 (0, 0)) = w1 at *
  have x4 := cell_of hX 4
  have x5 := cell_of hX 5
  have x6 := cell_of hX 6
  have x7 := cell_of hX 7
  have H1 := Lib.hid (⟨hX, hb1⟩ : _ ∧ _)
  clear hX hb1 hb0
  go_wp2_with fail
  refine hq.mono ?_
  rintro e w2 ⟨hb2, v, rfl⟩
  have hX2 := (hb2.block _ (Array.getElem?_eq_some_iff.1 H1.out.1).1).trans H1.out.1
  have hw2 := H1.out.2.trans (hb2.mono H1.out.2.size)
  have H2 := Lib.hid hw2
  have hmk : (Instr.makeMap 56 none).run Tryd.prog w2 = .ok (.map (some w2.heap.size)) (w2.alloc (.map #[] 0)) := by simp [Instr.makeMap]
  clear hb2 hw2 x4 x5 x6 x7 hq
  go_wp2_with (refine wpList_load_row rfl (.tmp 1) 32 rfl w.heap.size 32 _ _ rfl hX2 Tryd.underlying32 rfl (by kernel_rfl) ?_)
  go_ret2
  have hb3 : Below w2.heap.size w2 ((w2.alloc (.map #[] 0)).alloc (.cells (dkC B C (.string ⟨#[86]⟩) (.string ⟨#[80]⟩) (.string ⟨#[82]⟩) w2.heap.size none 0 0 0 0 0 true) 65 (0, 0))) := ((Below.refl w2.heap.size w2).alloc (Nat.le_refl _) _).alloc (by simp) _
  have hM : MedAt ((w2.alloc (.map #[] 0)).alloc (.cells (dkC B C (.string ⟨#[86]⟩) (.string ⟨#[80]⟩) (.string ⟨#[82]⟩) w2.heap.size none 0 0 0 0 0 true) 65 (0, 0))) w2.heap.size (st0 B C).med :=
    ⟨#[], 0, alloc2_0 w2 _ _, by simp, (fun x hx => by simp at hx), (fun m e h => by cases h)⟩
  have hI : ∀ L : Nat → Prop, (∀ i, L i → i < w.heap.size) → DkI L (w2.heap.size + 1) (.string ⟨#[86]⟩) (.string ⟨#[80]⟩) (.string ⟨#[82]⟩) w2.heap.size none 0 0 0 0 (st0 B C) ((w2.alloc (.map #[] 0)).alloc (.cells (dkC B C (.string ⟨#[86]⟩) (.string ⟨#[80]⟩) (.string ⟨#[82]⟩) w2.heap.size none 0 0 0 0 0 true) 65 (0, 0))) := fun L hL =>
    { disk := alloc2_1 w2 _ _
      med := hM
      row := RowF.nil _ _ _
      dat := fun e he => by
        rcases he with he | ⟨m, he⟩
        · cases he
        · cases he
      nd := fun h => by have := hL _ h; have := H2.out.size; omega
      nm := fun h => by have := hL _ h; have := H2.out.size; omega
      nr := fun a ea => by cases ea
      lt := fun i hi => by have := hL _ hi; have := H2.out.size; have := hb3.size; omega
      len := ⟨Nat.zero_le _, hC, hB.1, hB.2⟩ }
  exact ⟨H2.out.trans (hb3.mono H2.out.size), w2.heap.size + 1, rfl, fun L hL => ⟨_, _, _, _, _, _, _, _, _, hI L hL⟩⟩
end Go.Proofs.YtdiameckiihppaaDoor
