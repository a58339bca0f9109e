/-
  What is proved here: what slices.Clone and Clip of bytes, transactions' copied, dataOf and Clip of what was sent return.
  Conditions: what the slices' cells hold.
  What is proved here: what pipes.Next returns for an isochronous work with a packet left, exactly.
  Conditions: what periodics.Next returns.
-/
import Derived.Test.YtiajboiobjfcoaaGreatDoorIBase
namespace Go.Proofs.YtiajboiobjfcoaaGreatDoor
open Go.Proofs Go.RowKit
attribute [local go_sem] lt2 lt3 lt4 lt5
set_option maxHeartbeats 2000000 in
theorem sclone (A : Option Addr) (n c : Nat) (xs : List Int) (w : World) (hx : U8 w A n c xs) (hn : n ≤ 65536) :
  Calls Tryz.prog 28 #[.slice A n c] w fun e w' => Below w.heap.size w w' ∧ ((A = none ∧ n = 0 ∧ e = .returned (.slice none 0 0)) ∨ ∃ g cap, e = .returned (.slice (some ⟨g, 0, none⟩) n cap) ∧ w.heap.size ≤ g ∧ F8 w' g n cap xs) := by
 obtain ⟨i0, hi, hz0, hz1, hz2⟩ := info_parts info5
 obtain ⟨h1, h2, h3, ⟨rfl, rfl, rfl⟩ | ⟨a, rfl, h5⟩⟩ := hx
 ·have hnil := fun (w : World) => Lib.run_eql_slice_nil (P := Tryz.prog) w 23 5 none 0 0 0 0 Tryz.underlying23
  go_enter Tryz.func28, Tryz.ntmps28
  go_wp2
  go_ret
  exact ⟨Below.refl _ _, .inl ⟨by trivial, by trivial, rfl⟩⟩
 have hnil := fun (w : World) => Lib.run_eql_slice_nil (P := Tryz.prog) w 23 5 (some a) n c 0 0 Tryz.underlying23
 go_enter Tryz.func28, Tryz.ntmps28
 go_wp2_with (at_builtin; refine wpList_append_own _ rfl (.tmp 5) (.tmp 6) 23 rfl w.heap.size 5 i0 (.int .u8 0) 1 1 Tryz.underlying23 hi hz0 hz1 hz2 rfl (by decide) _ 0 [] rfl ?own a n c (xs.map (Value.int .u8)) rfl ?c1 ?c2 ?c3 ?c4 ?c5 ?c6 ?_)
 case own => exact World.ownsRow_made w #[] 0 (Nat.le_refl _) (by decide) rfl
 case c1 => simp [h1]
 case c2 =>
  intro j u hj
  rw [List.getElem?_map, Option.map_eq_some_iff] at hj
  obtain ⟨x, hx, rfl⟩ := hj
  have hjn : j < n := by rw [← h1]; exact (List.getElem?_eq_some_iff.1 hx).1
  have hcx := h5 j hjn
  rw [hx] at hcx
  rw [World.cell?_alloc_lt _ _ _ (World.block_lt_of_cell? _ _ hcx)]
  exact hcx
 case c3 =>
  intro u hu
  obtain ⟨x, _, rfl⟩ := List.mem_map.1 hu
  rfl
 case c4 => unfold maxLen; omega
 case c5 => omega
 case c6 => simp
 intro v' w1 hown hgrow hnn
 have hb1 : Below w.heap.size w w1 := ((Below.refl _ _).alloc (Nat.le_refl _) _).grown hgrow (by simp) (fun k hk => by simp [Value.ownBlock] at hk; omega)
 have hv : v' ≠ .slice none 0 0 := hnn
 have hl : (0 : Nat) + n = n := by omega
 obtain ⟨g, zn, cap, rfl, hg, hu⟩ := f8_of_own h2 (by simpa [h1] using hown) hv
 clear hown hgrow hnn hv hnil
 go_wp2
 go_ret
 have e1 := hu.1
 subst e1
 subst h1
 exact ⟨hb1, .inr ⟨g, cap, rfl, hg, hu⟩⟩
theorem sclip (A : Option Addr) (n c : Nat) (w : World) (hc : n ≤ c) :
  Calls Tryz.prog 27 #[.slice A n c] w fun e w' => e = .returned (.slice A n n) ∧ w' = w := by
 cases A
 all_goals
  go_enter Tryz.func27, Tryz.ntmps27
  go_wp2
  go_ret
  exact ⟨rfl, rfl⟩
theorem sclip_sent (A : Option Addr) (n c : Nat) (w : World) (hc : n ≤ c) :
  Calls Tryz.prog 62 #[.slice A n c] w fun e w' => e = .returned (.slice A n n) ∧ w' = w := by
 cases A
 all_goals
  go_enter Tryz.func62, Tryz.ntmps62
  go_wp2
  go_ret
  exact ⟨rfl, rfl⟩
theorem ret_cell2 {P : Program} {fn : Func} {p u u' : Tmp} {ty : TypeId} {R : Ending → World → Prop} {a : Act} {w : World} (g : Nat) (t : TypeId) (cs : Array Value) (d : TypeDesc) (v v' : Value) (hres : fn.results = #[.cell p ty, .tmp u, .tmp u'])
  (hp : a.tmps.getD p undef = .pointer (some ⟨g, 0, none⟩)) (hu : a.tmps.getD u undef = v) (hu' : a.tmps.getD u' undef = v') (hg : w.heap[g]? = some (.cells cs t (0, 0))) (hty : P.underlying ty = some d) (hd : (match d with | .struct _ | .array _ _ => true | _ => false) = true)
  (hi : (P.info? ty).map (·.size) = some cs.size) (hde : a.defers = []) (hR : R (.returned (.tuple #[.agg cs, v, v'])) w) : bodyPost P fn R .ret a w := by
 refine bodyPost_ret_by ?_ hde hR
 have hr : (results fn a.tmps).run P w = ((asAddr (a.tmps.getD p undef)).run P w).andThen fun a₁ w₁ => ((loadVar ty a₁).run P w₁).andThen fun v w₂ => .ok (.tuple #[v, a.tmps.getD u undef, a.tmps.getD u' undef]) w₂ := by
  simp only [results, hres]
  simp [Sem.run_bind, Result.andThen]
 rw [hr, hp, hu, hu']
 have := run_loadVar_row (P := P) w g t ty cs (0, 0) d hg hty hd hi
 simp [asAddr, this]
theorem ret_one {P : Program} {fn : Func} {p : Tmp} {ty : TypeId} {R : Ending → World → Prop} {a : Act} {w : World} (g : Nat) (t : TypeId) (cs : Array Value) (d : TypeDesc) (hres : fn.results = #[.cell p ty])
  (hp : a.tmps.getD p undef = .pointer (some ⟨g, 0, none⟩)) (hg : w.heap[g]? = some (.cells cs t (0, 0))) (hty : P.underlying ty = some d) (hd : (match d with | .struct _ | .array _ _ => true | _ => false) = true)
  (hi : (P.info? ty).map (·.size) = some cs.size) (hde : a.defers = []) (hR : R (.returned (.agg cs)) w) : bodyPost P fn R .ret a w := by
 refine bodyPost_ret_by ?_ hde hR
 exact results_cell_row hres _ w g t cs (0, 0) d hp hg hty hd hi
def New8 (w : World) (w' : World) (A : Option Addr) (n c : Nat) (xs : List Int) : Prop := U8 w' A n c xs ∧ (n = 0 ∨ ∃ a, A = some a ∧ w.heap.size ≤ a.block)
theorem New8.d8 {w w' : World} {S : Nat → Prop} {A : Option Addr} {n c : Nat} {xs : List Int} (h : New8 w w' A n c xs) (hS : ∀ i, S i → i < w.heap.size) : D8 w' S A n c xs :=
 ⟨h.1, h.2.imp id fun ⟨a, e, hl⟩ => ⟨a, e, fun hs => by have := hS _ hs; omega⟩⟩
theorem u8_clip {w : World} {A : Option Addr} {n c : Nat} {xs : List Int} (h : U8 w A n c xs) : U8 w A n n xs := by
 obtain ⟨h1, h2, _, h3⟩ := h
 exact ⟨h1, h2, Nat.le_refl _, h3.imp (fun ⟨a, b, _⟩ => ⟨a, b, b⟩) id⟩
set_option maxHeartbeats 4000000 in
set_option maxRecDepth 100000 in
theorem copied_ret (p : Pk) (A : Option Addr) (n c : Nat) (w : World) (hx : U8 w A n c p.data) (hn : n ≤ 65536) :
  Calls Tryz.prog 83 #[pkV p (.slice A n c)] w fun e w' => Below w.heap.size w w' ∧ ∃ A', e = .returned (pkV p (.slice A' n n)) ∧ New8 w w' A' n n p.data := by
 unfold pkV
 obtain ⟨pid, ad, en, xs⟩ := p
 dsimp only at *
 have hb : ∀ a b, Below w.heap.size w ((w.alloc a).alloc b) := fun a b => ((Below.refl w.heap.size w).alloc (Nat.le_refl _) a).alloc (by simp) b
 go_enter Tryz.func83, Tryz.ntmps83
 go_wp2_with fail
 refine (sclone A n c xs _ (hx.below (hb _ _)) hn).mono ?_
 rintro e w1 ⟨hb1, he⟩
 have hb01 := (hb (.cells #[.int .u8 pid, .int .u8 ad, .int .u8 en, .int .u16 0, .int .u8 0, .int .u8 0, .bool false, .bool false, .int .u8 0, .slice A n c] 144) (.cells #[.int .u8 0, .int .u8 0, .int .u8 0, .int .u16 0, .int .u8 0, .int .u8 0, .bool false, .bool false, .int .u8 0, .slice none 0 0] 144)).trans (hb1.mono (hb _ _).size)
 obtain ⟨A1, c1, rfl, hN, hfar, hc1⟩ : ∃ A1 c1, e = .returned (.slice A1 n c1) ∧ U8 w1 A1 n c1 xs ∧ (n = 0 ∨ ∃ a, A1 = some a ∧ w.heap.size + 2 ≤ a.block) ∧ n ≤ c1 := by
  rcases he with ⟨rfl, rfl, rfl⟩ | ⟨g, cap, rfl, hg, hf⟩
  ·exact ⟨none, 0, rfl, ⟨hx.1, hx.2.1, Nat.le_refl _, .inl ⟨rfl, rfl, rfl⟩⟩, .inl rfl, Nat.le_refl _⟩
  ·exact ⟨_, cap, rfl, hf.u8, .inr ⟨_, rfl, by simp at hg; show w.heap.size + 2 ≤ g; omega⟩, hf.2.2.1⟩
 clear he
 have hX0 := heap_below (alloc2_0 w _ _) hb1
 have hX1 := heap_below (alloc2_1 w _ _) hb1
 clear hb1
 have f9 := frozen_of hX0 9
 have z9 := cell_of hX0 9
 go_wp2_with fail
 refine (sclip A1 n c1 w1 hc1).mono ?_
 rintro e w1' ⟨rfl, rfl⟩
 have hS := setCell_heap hX0 9 (.slice A1 n n)
 have hW := (Wrote.refl w.heap.size w1').setCell 9 (.slice A1 n n)
 have hY1 := (hW.other (w.heap.size + 1) (by omega)).trans hX1
 clear hX0 hX1
 go_wp2_with (guard_target =~ wpList _ _ _ (_ :: _) _ _; first
  | refine wpList_load_row rfl (.tmp 1) 144 rfl w.heap.size 144 _ _ rfl hS Tryz.underlying144 rfl (by kernel_rfl) ?_
  | (refine wpList_store_row rfl (.tmp 2) (.tmp 8) 144 rfl (w.heap.size + 1) 0 144 _ _ #[.int .u8 pid, .int .u8 ad, .int .u8 en, .int .u16 0, .int .u8 0, .int .u8 0, .bool false, .bool false, .int .u8 0, .slice A1 n n] rfl rfl hY1 (by kernel_rfl) (by simp) rfl rfl ?_; intro w3 hZ3 hW3))
 refine ret_one _ _ _ _ rfl rfl hZ3 Tryz.underlying144 rfl (by kernel_rfl) rfl ⟨(hb01.trans (hW.below (Nat.le_refl _))).trans (hW3.below (by omega)), A1, rfl, ?_, ?_⟩
 ·exact u8_clip ((hN.wrote hW (hfar.imp id fun ⟨a, e, h⟩ => ⟨a, e, by omega⟩)).wrote hW3 (hfar.imp id fun ⟨a, e, h⟩ => ⟨a, e, by omega⟩))
 ·exact hfar.imp id fun ⟨a, e, h⟩ => ⟨a, e, by omega⟩
end Go.Proofs.YtiajboiobjfcoaaGreatDoor

namespace Go.Proofs.YtiajboiobjfcoaaGreatDoor
open Go.Proofs Go.RowKit
attribute [local go_sem] lt2 lt3 lt4 lt5
def Pl (A : Option Addr) (n : Nat) : Prop := n = 0 ∨ ∃ g o, A = some ⟨g, o, none⟩
end Go.Proofs.YtiajboiobjfcoaaGreatDoor
