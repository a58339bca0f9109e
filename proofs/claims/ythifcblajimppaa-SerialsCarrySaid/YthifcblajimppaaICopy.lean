/-
  What is proved here: what periodics.Start returns.
  Conditions: what the slices' cells hold.
  What is proved here: worlds that keep all blocks but some; an abstract bus (a device and a wire with a state); packets as values.
  Conditions: none.
  What is proved here: what slices.Clone and Clip of bytes, transactions' copied, dataOf and Clip of what was sent return.
  Conditions: what the slices' cells hold.
-/
import Derived.Test.YthifcblajimppaaQStore
import Derived.Deep.RegionHeld3
import Derived.Deep.AppendLies
import Derived.Deep.RegionLaw
namespace Go.Proofs.Ythifcblajimppaa
open Go.Proofs Go.RowKit
attribute [local go_sem] lt2 lt3 lt4 lt5
theorem own_type {w : World} {B size n g : Nat} {e e' : TypeId} {v : Value} {xs : List Value} {cs : Array Value} (h : w.ownsRow B e size v n xs) (hg : w.heap[g]? = some (.cells cs e' (0, 0))) (he : e' ≠ e) : v.ownBlock ≠ some g := by
 intro hv
 rcases h.2 with ⟨rfl, _⟩ | ⟨k, cap, cur, rfl, _, hh, _⟩
 ·simp [Value.ownBlock] at hv
 ·simp [Value.ownBlock] at hv
  subst hv
  rw [hh] at hg
  injection hg with hg
  injection hg with _ h2
  exact he h2.symm
end Go.Proofs.Ythifcblajimppaa

namespace Go.Proofs.Ythifcblajimppaa
open Go.Proofs Go.RowKit
structure Mv (S : Nat → Prop) (w : World) (S' : Nat → Prop) (w' : World) : Prop where
 os : w'.os = w.os
 tape : w'.tape = w.tape
 output : w'.output = w.output
 size : w.heap.size ≤ w'.heap.size
 block : ∀ i, i < w.heap.size → ¬ S i → w'.heap[i]? = w.heap[i]?
 sub : ∀ i, i < w.heap.size → S' i → S i
theorem Mv.refl (S : Nat → Prop) (w : World) : Mv S w S w := ⟨rfl, rfl, rfl, Nat.le_refl _, fun _ _ _ => rfl, fun _ _ h => h⟩
theorem Mv.trans {S S' S'' : Nat → Prop} {a b c : World} (h : Mv S a S' b) (k : Mv S' b S'' c) : Mv S a S'' c :=
 ⟨k.os.trans h.os, k.tape.trans h.tape, k.output.trans h.output, Nat.le_trans h.size k.size,
  fun i hi hs => (k.block i (Nat.lt_of_lt_of_le hi h.size) (fun h' => hs (h.sub i hi h'))).trans (h.block i hi hs),
  fun i hi h' => h.sub i hi (k.sub i (Nat.lt_of_lt_of_le hi h.size) h')⟩
theorem Mv.below {S S' : Nat → Prop} {a b c : World} (h : Mv S a S' b) (k : Below b.heap.size b c) : Mv S a S' c :=
 h.trans ⟨k.os, k.tape, k.output, k.size, fun i hi _ => k.block i hi, fun _ _ h => h⟩
theorem Mv.wrote {S S' : Nat → Prop} {a b c : World} {g : Nat} (h : Mv S a S' b) (k : Wrote g b c) (hg : a.heap.size ≤ g) : Mv S a S' c :=
 ⟨k.os.trans h.os, k.tape.trans h.tape, k.output.trans h.output, by rw [k.size]; exact h.size,
  fun i hi hs => (k.other i (by omega)).trans (h.block i hi hs), h.sub⟩
theorem Mv.alloc {S S' : Nat → Prop} {a b : World} (h : Mv S a S' b) (o : Obj) : Mv S a S' (b.alloc o) := h.below ((Below.refl _ _).alloc (Nat.le_refl _) o)
theorem Mv.heap {S S' : Nat → Prop} {w w' : World} {g : Nat} {o : Obj} (h : Mv S w S' w') (hg : w.heap[g]? = some o) (hs : ¬ S g) : w'.heap[g]? = some o :=
 (h.block g (Array.getElem?_eq_some_iff.1 hg).1 hs).trans hg
theorem Mv.out {S S' : Nat → Prop} {w w' : World} {g : Nat} (h : Mv S w S' w') (hg : g < w.heap.size) (hs : ¬ S g) : ¬ S' g := fun h' => hs (h.sub g hg h')
theorem Mv.to_below {S S' : Nat → Prop} {w w' : World} {B : Nat} (h : Mv S w S' w') (hB : B ≤ w.heap.size) (hS : ∀ i, S i → B ≤ i) : Below B w w' :=
 ⟨h.os, h.tape, h.output, h.size, fun i hi => h.block i (by omega) (fun hs => by have := hS i hs; omega)⟩
def D8 (w : World) (S : Nat → Prop) (A : Option Addr) (n c : Nat) (xs : List Int) : Prop :=
 U8 w A n c xs ∧ (n = 0 ∨ ∃ a, A = some a ∧ ¬ S a.block)
theorem D8.mv {w w' : World} {S S' : Nat → Prop} {A : Option Addr} {n c : Nat} {xs : List Int} (h : D8 w S A n c xs) (hm : Mv S w S' w') : D8 w' S' A n c xs := by
 obtain ⟨⟨h1, h2, h3, h4⟩, h5⟩ := h
 rcases Nat.eq_zero_or_pos n with h0 | h0
 ·subst h0
  exact ⟨⟨h1, h2, h3, h4.imp id fun ⟨a, e, _⟩ => ⟨a, e, fun j hj => by omega⟩⟩, .inl rfl⟩
 ·rcases h4 with ⟨_, h4, _⟩ | ⟨a, rfl, h4⟩
  ·omega
  rcases h5 with h5 | ⟨a', e, hs⟩
  ·omega
  cases e
  have hlt : a.block < w.heap.size := by
   have := World.block_lt_of_cell? _ _ (h4 0 h0)
   rwa [show (a.add 0) = a by simp [Addr.add]] at this
  refine ⟨⟨h1, h2, h3, .inr ⟨a, rfl, fun j hj => ?_⟩⟩, .inr ⟨a, rfl, hm.out hlt hs⟩⟩
  rw [World.cell?_of_block (w := w) (w' := w') (a := a.add j) ?_]
  ·exact h4 j hj
  ·have : (a.add j).block = a.block := by unfold Addr.add; split <;> rfl
   rw [this]; exact hm.block _ hlt hs
theorem D8.below {w w' : World} {S : Nat → Prop} {A : Option Addr} {n c : Nat} {xs : List Int} (h : D8 w S A n c xs) (hb : Below w.heap.size w w') : D8 w' S A n c xs := h.mv ((Mv.refl S w).below hb)
theorem D8.nil (w : World) (S : Nat → Prop) : D8 w S none 0 0 [] := ⟨⟨rfl, (fun _ hx => nomatch hx), Nat.le_refl _, .inl ⟨rfl, rfl, rfl⟩⟩, .inl rfl⟩
theorem add_block' (a : Addr) (j : Nat) : (a.add j).block = a.block := by unfold Addr.add; split <;> rfl
theorem U8.wrote {w w' : World} {A : Option Addr} {n c g : Nat} {xs : List Int} (h : U8 w A n c xs) (hw : Wrote g w w') (hf : n = 0 ∨ ∃ a, A = some a ∧ a.block ≠ g) : U8 w' A n c xs := by
 obtain ⟨h1, h2, h3, h4⟩ := h
 refine ⟨h1, h2, h3, h4.imp id ?_⟩
 rintro ⟨a, rfl, h5⟩
 refine ⟨a, rfl, fun j hj => ?_⟩
 rcases hf with h0 | ⟨a', e, hne⟩
 ·omega
 ·cases e
  exact (hw.cell (by rw [add_block']; exact hne)).trans (h5 j hj)
structure Pk where
 pid : Int
 addr : Int
 endp : Int
 data : List Int
def pkV (p : Pk) (D : Value) : Value := .agg #[.int .u8 p.pid, .int .u8 p.addr, .int .u8 p.endp, .int .u16 0, .int .u8 0, .int .u8 0, .bool false, .bool false, .int .u8 0, D]
def pk0 : Pk := ⟨0, 0, 0, []⟩
structure Bus where
 σ : Type
 B0 : Nat
 I : World → (Nat → Prop) → σ → Prop
 keep : ∀ {w w' : World} {S : Nat → Prop} {s : σ}, I w S s → (∀ i, (i < B0 ∨ S i) → w'.heap[i]? = w.heap[i]?) → w.heap.size ≤ w'.heap.size → I w' S s
 lt : ∀ {w : World} {S : Nat → Prop} {s : σ}, I w S s → ∀ i, S i → i < w.heap.size
 base : ∀ {w : World} {S : Nat → Prop} {s : σ}, I w S s → B0 ≤ w.heap.size
 wv : Value
 one : wv.cells = #[wv]
 nx : σ → Int × σ
 next : ∀ {w : World} {S : Nat → Prop} {s : σ}, I w S s → Calls Try.prog 50 #[wv] w fun e w' => ∃ S', e = .returned (.int .u8 (nx s).1) ∧ I w' S' (nx s).2 ∧ Mv S w S' w'
 ga : Addr
 hr : σ → Pk → Option Pk × σ
 room : σ → Prop
 Ok : Pk → Prop
 hear : ∀ {w : World} {S : Nat → Prop} {s : σ} {p : Pk} {A : Option Addr} {n c : Nat}, I w S s → room s → Ok p → D8 w S A n c p.data → Calls Try.prog 94 #[.pointer (some ga), pkV p (.slice A n c)] w fun e w' =>
  ∃ S' q b A' n' c', e = .returned (.tuple #[pkV q (.slice A' n' c'), .bool b]) ∧ I w' S' (hr s p).2 ∧ Mv S w S' w' ∧ D8 w' S' A' n' c' q.data ∧ (n' = 0 ∨ ∃ a, A' = some a ∧ (a.block < B0 ∨ w.heap.size ≤ a.block)) ∧ (hr s p).1 = (if b then some q else none)
theorem Bus.below {M : Bus} {w w' : World} {S : Nat → Prop} {s : M.σ} (h : M.I w S s) (hb : Below w.heap.size w w') : M.I w' S s :=
 M.keep h (fun i hi => hb.block i (hi.elim (fun h0 => Nat.lt_of_lt_of_le h0 (M.base h)) (M.lt h i))) hb.size
theorem Bus.wrote {M : Bus} {w w' : World} {S : Nat → Prop} {s : M.σ} {g : Nat} (h : M.I w S s) (hw : Wrote g w w') (h0 : M.B0 ≤ g) (hs : ¬ S g) : M.I w' S s :=
 M.keep h (fun i hi => hw.other i (by rintro rfl; rcases hi with hi | hi; omega; exact hs hi)) (Nat.le_of_eq hw.size.symm)
theorem Bus.new {M : Bus} {w : World} {S : Nat → Prop} {s : M.σ} (h : M.I w S s) {g : Nat} (hg : w.heap.size ≤ g) : ¬ S g := fun hs => by have := M.lt h g hs; omega
end Go.Proofs.Ythifcblajimppaa

namespace Go.Proofs.Ythifcblajimppaa
open Go.Proofs Go.RowKit
attribute [local go_sem] lt2 lt3 lt4 lt5
set_option maxHeartbeats 2000000 in
theorem sclone (A : Option Addr) (n c : Nat) (xs : List Int) (w : World) (hx : U8 w A n c xs) (hn : n ≤ 65536) :
  Calls Try.prog 39 #[.slice A n c] w fun e w' => Below w.heap.size w w' ∧ ((A = none ∧ n = 0 ∧ e = .returned (.slice none 0 0)) ∨ ∃ g cap, e = .returned (.slice (some ⟨g, 0, none⟩) n cap) ∧ w.heap.size ≤ g ∧ F8 w' g n cap xs) := by
 obtain ⟨i0, hi, hz0, hz1, hz2⟩ := info_parts info5
 obtain ⟨h1, h2, h3, ⟨rfl, rfl, rfl⟩ | ⟨a, rfl, h5⟩⟩ := hx
 ·have hnil := fun (w : World) => Lib.run_eql_slice_nil (P := Try.prog) w 33 5 none 0 0 0 0 Try.underlying33
  go_enter Try.func39, Try.ntmps39
  go_wp2
  go_ret
  exact ⟨Below.refl _ _, .inl ⟨by trivial, by trivial, rfl⟩⟩
 have hnil := fun (w : World) => Lib.run_eql_slice_nil (P := Try.prog) w 33 5 (some a) n c 0 0 Try.underlying33
 go_enter Try.func39, Try.ntmps39
 go_wp2_with (at_builtin; refine wpList_append_own _ rfl (.tmp 5) (.tmp 6) 33 rfl w.heap.size 5 i0 (.int .u8 0) 1 1 Try.underlying33 hi hz0 hz1 hz2 rfl (by decide) _ 0 [] rfl ?own a n c (xs.map (Value.int .u8)) rfl ?c1 ?c2 ?c3 ?c4 ?c5 ?c6 ?_)
 case own => exact World.ownsRow_made w #[] 0 (Nat.le_refl _) (by decide) rfl
 case c1 => simp [h1]
 case c2 =>
  intro j u hj
  rw [List.getElem?_map, Option.map_eq_some_iff] at hj
  obtain ⟨x, hx, rfl⟩ := hj
  have hjn : j < n := by rw [← h1]; exact (List.getElem?_eq_some_iff.1 hx).1
  have hcx := h5 j hjn
  rw [hx] at hcx
  rw [World.cell?_alloc_lt _ _ _ (World.block_lt_of_cell? _ _ hcx)]
  exact hcx
 case c3 =>
  intro u hu
  obtain ⟨x, _, rfl⟩ := List.mem_map.1 hu
  rfl
 case c4 => unfold maxLen; omega
 case c5 => omega
 case c6 => simp
 intro v' w1 hown hgrow hnn
 have hb1 : Below w.heap.size w w1 := ((Below.refl _ _).alloc (Nat.le_refl _) _).grown hgrow (by simp) (fun k hk => by simp [Value.ownBlock] at hk; omega)
 have hv : v' ≠ .slice none 0 0 := hnn
 have hl : (0 : Nat) + n = n := by omega
 obtain ⟨g, zn, cap, rfl, hg, hu⟩ := f8_of_own h2 (by simpa [h1] using hown) hv
 clear hown hgrow hnn hv hnil
 go_wp2
 go_ret
 have e1 := hu.1
 subst e1
 subst h1
 exact ⟨hb1, .inr ⟨g, cap, rfl, hg, hu⟩⟩
theorem sclip (A : Option Addr) (n c : Nat) (w : World) (hc : n ≤ c) :
  Calls Try.prog 28 #[.slice A n c] w fun e w' => e = .returned (.slice A n n) ∧ w' = w := by
 cases A
 all_goals
  go_enter Try.func28, Try.ntmps28
  go_wp2
  go_ret
  exact ⟨rfl, rfl⟩
theorem sclip_sent (A : Option Addr) (n c : Nat) (w : World) (hc : n ≤ c) :
  Calls Try.prog 46 #[.slice A n c] w fun e w' => e = .returned (.slice A n n) ∧ w' = w := by
 cases A
 all_goals
  go_enter Try.func46, Try.ntmps46
  go_wp2
  go_ret
  exact ⟨rfl, rfl⟩
theorem ret_cell2 {P : Program} {fn : Func} {p u u' : Tmp} {ty : TypeId} {R : Ending → World → Prop} {a : Act} {w : World} (g : Nat) (t : TypeId) (cs : Array Value) (d : TypeDesc) (v v' : Value) (hres : fn.results = #[.cell p ty, .tmp u, .tmp u'])
  (hp : a.tmps.getD p undef = .pointer (some ⟨g, 0, none⟩)) (hu : a.tmps.getD u undef = v) (hu' : a.tmps.getD u' undef = v') (hg : w.heap[g]? = some (.cells cs t (0, 0))) (hty : P.underlying ty = some d) (hd : (match d with | .struct _ | .array _ _ => true | _ => false) = true)
  (hi : (P.info? ty).map (·.size) = some cs.size) (hde : a.defers = []) (hR : R (.returned (.tuple #[.agg cs, v, v'])) w) : bodyPost P fn R .ret a w := by
 refine bodyPost_ret_by ?_ hde hR
 have hr : (results fn a.tmps).run P w = ((asAddr (a.tmps.getD p undef)).run P w).andThen fun a₁ w₁ => ((loadVar ty a₁).run P w₁).andThen fun v w₂ => .ok (.tuple #[v, a.tmps.getD u undef, a.tmps.getD u' undef]) w₂ := by
  simp only [results, hres]
  simp [Sem.run_bind, Result.andThen]
 rw [hr, hp, hu, hu']
 have := run_loadVar_row (P := P) w g t ty cs (0, 0) d hg hty hd hi
 simp [asAddr, this]
theorem ret_one {P : Program} {fn : Func} {p : Tmp} {ty : TypeId} {R : Ending → World → Prop} {a : Act} {w : World} (g : Nat) (t : TypeId) (cs : Array Value) (d : TypeDesc) (hres : fn.results = #[.cell p ty])
  (hp : a.tmps.getD p undef = .pointer (some ⟨g, 0, none⟩)) (hg : w.heap[g]? = some (.cells cs t (0, 0))) (hty : P.underlying ty = some d) (hd : (match d with | .struct _ | .array _ _ => true | _ => false) = true)
  (hi : (P.info? ty).map (·.size) = some cs.size) (hde : a.defers = []) (hR : R (.returned (.agg cs)) w) : bodyPost P fn R .ret a w := by
 refine bodyPost_ret_by ?_ hde hR
 exact results_cell_row hres _ w g t cs (0, 0) d hp hg hty hd hi
def New8 (w : World) (w' : World) (A : Option Addr) (n c : Nat) (xs : List Int) : Prop := U8 w' A n c xs ∧ (n = 0 ∨ ∃ a, A = some a ∧ w.heap.size ≤ a.block)
theorem New8.d8 {w w' : World} {S : Nat → Prop} {A : Option Addr} {n c : Nat} {xs : List Int} (h : New8 w w' A n c xs) (hS : ∀ i, S i → i < w.heap.size) : D8 w' S A n c xs :=
 ⟨h.1, h.2.imp id fun ⟨a, e, hl⟩ => ⟨a, e, fun hs => by have := hS _ hs; omega⟩⟩
theorem u8_clip {w : World} {A : Option Addr} {n c : Nat} {xs : List Int} (h : U8 w A n c xs) : U8 w A n n xs := by
 obtain ⟨h1, h2, _, h3⟩ := h
 exact ⟨h1, h2, Nat.le_refl _, h3.imp (fun ⟨a, b, _⟩ => ⟨a, b, b⟩) id⟩
set_option maxHeartbeats 4000000 in
set_option maxRecDepth 100000 in
theorem copied_ret (p : Pk) (A : Option Addr) (n c : Nat) (w : World) (hx : U8 w A n c p.data) (hn : n ≤ 65536) :
  Calls Try.prog 51 #[pkV p (.slice A n c)] w fun e w' => Below w.heap.size w w' ∧ ∃ A', e = .returned (pkV p (.slice A' n n)) ∧ New8 w w' A' n n p.data := by
 unfold pkV
 obtain ⟨pid, ad, en, xs⟩ := p
 dsimp only at *
 have hb : ∀ a b, Below w.heap.size w ((w.alloc a).alloc b) := fun a b => ((Below.refl w.heap.size w).alloc (Nat.le_refl _) a).alloc (by simp) b
 go_enter Try.func51, Try.ntmps51
 go_wp2_with fail
 refine (sclone A n c xs _ (hx.below (hb _ _)) hn).mono ?_
 rintro e w1 ⟨hb1, he⟩
 have hb01 := (hb (.cells #[.int .u8 pid, .int .u8 ad, .int .u8 en, .int .u16 0, .int .u8 0, .int .u8 0, .bool false, .bool false, .int .u8 0, .slice A n c] 113) (.cells #[.int .u8 0, .int .u8 0, .int .u8 0, .int .u16 0, .int .u8 0, .int .u8 0, .bool false, .bool false, .int .u8 0, .slice none 0 0] 113)).trans (hb1.mono (hb _ _).size)
 obtain ⟨A1, c1, rfl, hN, hfar, hc1⟩ : ∃ A1 c1, e = .returned (.slice A1 n c1) ∧ U8 w1 A1 n c1 xs ∧ (n = 0 ∨ ∃ a, A1 = some a ∧ w.heap.size + 2 ≤ a.block) ∧ n ≤ c1 := by
  rcases he with ⟨rfl, rfl, rfl⟩ | ⟨g, cap, rfl, hg, hf⟩
  ·exact ⟨none, 0, rfl, ⟨hx.1, hx.2.1, Nat.le_refl _, .inl ⟨rfl, rfl, rfl⟩⟩, .inl rfl, Nat.le_refl _⟩
  ·exact ⟨_, cap, rfl, hf.u8, .inr ⟨_, rfl, by simp at hg; show w.heap.size + 2 ≤ g; omega⟩, hf.2.2.1⟩
 clear he
 have hX0 := heap_below (alloc2_0 w _ _) hb1
 have hX1 := heap_below (alloc2_1 w _ _) hb1
 clear hb1
 have f9 := frozen_of hX0 9
 have z9 := cell_of hX0 9
 go_wp2_with fail
 refine (sclip A1 n c1 w1 hc1).mono ?_
 rintro e w1' ⟨rfl, rfl⟩
 have hS := setCell_heap hX0 9 (.slice A1 n n)
 have hW := (Wrote.refl w.heap.size w1').setCell 9 (.slice A1 n n)
 have hY1 := (hW.other (w.heap.size + 1) (by omega)).trans hX1
 clear hX0 hX1
 go_wp2_with (guard_target =~ wpList _ _ _ (_ :: _) _ _; first
  | refine wpList_load_row rfl (.tmp 1) 113 rfl w.heap.size 113 _ _ rfl hS Try.underlying113 rfl (by kernel_rfl) ?_
  | (refine wpList_store_row rfl (.tmp 2) (.tmp 8) 113 rfl (w.heap.size + 1) 0 113 _ _ #[.int .u8 pid, .int .u8 ad, .int .u8 en, .int .u16 0, .int .u8 0, .int .u8 0, .bool false, .bool false, .int .u8 0, .slice A1 n n] rfl rfl hY1 (by kernel_rfl) (by simp) rfl rfl ?_; intro w3 hZ3 hW3))
 refine ret_one _ _ _ _ rfl rfl hZ3 Try.underlying113 rfl (by kernel_rfl) rfl ⟨(hb01.trans (hW.below (Nat.le_refl _))).trans (hW3.below (by omega)), A1, rfl, ?_, ?_⟩
 ·exact u8_clip ((hN.wrote hW (hfar.imp id fun ⟨a, e, h⟩ => ⟨a, e, by omega⟩)).wrote hW3 (hfar.imp id fun ⟨a, e, h⟩ => ⟨a, e, by omega⟩))
 ·exact hfar.imp id fun ⟨a, e, h⟩ => ⟨a, e, by omega⟩
end Go.Proofs.Ythifcblajimppaa
