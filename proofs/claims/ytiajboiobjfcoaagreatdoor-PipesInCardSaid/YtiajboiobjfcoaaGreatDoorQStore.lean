/-
  What is proved here: what the packages' own 'clone' returns; blocks made three and more deep; slices of slices.
  Conditions: what the slices' cells hold.
  What is proved here: a store of a whole struct, or of a part of it, into a block that is known, as a law of the walk.
  Conditions: none.
-/
import Derived.Test.YtiajboiobjfcoaaGreatDoorOWords
import Derived.Laws.AppendOwn
import Derived.Laws.AppendOwnNone
import Derived.Laws.MakeOwn
import Derived.Laws.NewBlocks
import Derived.OwnWalk
import Derived.WalkKit
import Derived.Lib.SliceRun
import Derived.RegionTactic
import Derived.Deep.QuietTactic
import Derived.BigQuiet
import Derived.Deep.DeepCutAuto
import Derived.Deep.CutRange
import Derived.Laws.CopyRow
import Derived.Laws.Rows
import Derived.Laws.ResultCell
namespace Go.Proofs.YtiajboiobjfcoaaGreatDoor
open Go.Proofs Go.RowKit
theorem lt2 (n : Nat) : (n < n + 1 + 1) = True := by simp; omega
theorem lt3 (n : Nat) : (n < n + 1 + 1 + 1) = True := by simp; omega
theorem lt4 (n : Nat) : (n < n + 1 + 1 + 1 + 1) = True := by simp; omega
theorem lt5 (n : Nat) : (n < n + 1 + 1 + 1 + 1 + 1) = True := by simp; omega
theorem info5 : (Tryz.prog.info? 5).map (fun i => (i.zero, i.size, i.bytes)) = some (some (.int .u8 0), 1, 1) := by kernel_rfl
def F8 (w : World) (g n c : Nat) (xs : List Int) : Prop :=
 xs.length = n ∧ (∀ x ∈ xs, 0 ≤ x ∧ x ≤ 255) ∧ n ≤ c ∧ ∃ cs : Array Value, w.heap[g]? = some (.cells cs 5 (0, 0)) ∧ ∀ j, j < n → cs[j]? = some (.int .u8 (xs[j]?.getD 0))
theorem F8.u8 {w : World} {g n c : Nat} {xs : List Int} (h : F8 w g n c xs) : U8 w (some ⟨g, 0, none⟩) n c xs := by
 obtain ⟨h1, h2, h3, cs, h4, h5⟩ := h
 refine ⟨h1, h2, h3, .inr ⟨_, rfl, fun j hj => ?_⟩⟩
 rw [show (⟨g, 0, none⟩ : Addr).add j = ⟨g, j, none⟩ by unfold Addr.add; split <;> simp_all]
 unfold World.cell?
 rw [h4]
 exact h5 j hj
theorem F8.heap {w w' : World} {g n c : Nat} {xs : List Int} (h : F8 w g n c xs) (he : ∀ o, w.heap[g]? = some o → w'.heap[g]? = some o) : F8 w' g n c xs := by
 obtain ⟨h1, h2, h3, cs, h4, h5⟩ := h
 exact ⟨h1, h2, h3, cs, he _ h4, h5⟩
theorem F8.below {w w' : World} {g n c : Nat} {xs : List Int} (h : F8 w g n c xs) (hb : Below w.heap.size w w') : F8 w' g n c xs :=
 h.heap fun _ ho => (hb.block g (Array.getElem?_eq_some_iff.1 ho).1).trans ho
def Copied (w : World) (xs : List Int) (e : Ending) (w' : World) : Prop :=
 ∃ g c, e = .returned (.slice (some ⟨g, 0, none⟩) xs.length c) ∧ F8 w' g xs.length c xs ∧ w.heap.size ≤ g ∧ Below w.heap.size w w'
theorem f8_of_own {w : World} {base n : Nat} {v : Value} {xs : List Int} (hr : ∀ x ∈ xs, 0 ≤ x ∧ x ≤ 255) (h : w.ownsRow base 5 1 v n (xs.map (Value.int .u8))) (hv : v ≠ .slice none 0 0) :
  ∃ g zn cap, v = .slice (some ⟨g, 0, none⟩) zn cap ∧ base ≤ g ∧ F8 w g zn cap xs := by
 have hn : n = xs.length := by have := h.1; simp at this; omega
 subst hn
 rcases h.2 with ⟨rfl, _⟩ | ⟨g, cap, cur, rfl, hg, hh, hcap, _⟩
 ·exact absurd rfl hv
 ·refine ⟨g, _, cap, rfl, hg, rfl, hr, hcap, cur, hh, fun j hj => ?_⟩
  have hc := h.cellAt j (by simpa using hj)
  unfold World.cell? at hc
  rw [hh] at hc
  simpa [List.getElem?_eq_getElem hj] using hc
theorem made_own {n : Nat} (hn : n ≤ 65536) : ∃ mc : Array Value, (∀ w : World, (Instr.makeSlice 23 (.int .i64 0) (.int .i64 (n : Int))).run Tryz.prog w = .ok (.slice (some ⟨w.heap.size, 0, none⟩) 0 n) (w.alloc (.cells mc 5))) ∧ mc.size = n * 1 := by
 obtain ⟨i0, hi, hz0, hz1, hz2⟩ := info_parts info5
 refine ⟨madeCells (Value.int .u8 0).cells (n * 1), fun w => ?_, ?_⟩
 ·have h := run_makeSlice (P := Tryz.prog) w 23 5 i0 (.int .u8 0) Tryz.underlying23 hi hz0 .i64 .i64 0 n (Int.le_refl _) (by omega) (by rw [hz1]; simp; omega) (by rw [hz2]; omega) (by omega)
  rw [hz1] at h
  simpa using h
 ·exact size_madeCells _ _
set_option maxHeartbeats 2000000 in
set_option maxRecDepth 100000 in
theorem clone_x (A : Option Addr) (n c : Nat) (xs : List Int) (w : World) (hx : U8 w A n c xs) (hn : n ≤ 65536) :
  Calls Tryz.prog 63 #[.slice A n c] w (Copied w xs) := by
 obtain ⟨i0, hi, hz0, hz1, hz2⟩ := info_parts info5
 obtain ⟨mc, hmk, hmc⟩ := made_own hn
 obtain ⟨h1, h2, h3, h4⟩ := hx
 rcases h4 with ⟨rfl, rfl, rfl⟩ | ⟨a, rfl, h5⟩
 ·have hz := List.length_eq_zero_iff.1 h1
  subst hz
  have hmk0 : ∀ w : World, (Instr.makeSlice 23 (.int .i64 0) (.int .i64 0)).run Tryz.prog w = .ok (.slice (some ⟨w.heap.size, 0, none⟩) 0 0) (w.alloc (.cells mc 5)) := hmk
  clear hmk
  go_enter Tryz.func63, Tryz.ntmps63
  go_wp2_with (at_builtin; refine wpList_append_own_none rfl (.tmp 5) (.tmp 6) 23 rfl w.heap.size 5 i0 1 Tryz.underlying23 hi _ 0 [] rfl (World.ownsRow_made w mc 0 (Nat.le_refl _) (by decide) hmc) rfl ?_)
  go_ret
  exact ⟨w.heap.size, 0, rfl, ⟨rfl, h2, Nat.le_refl _, mc, heap_alloc_new w _, fun j hj => absurd hj (by simp)⟩, Nat.le_refl _, (Below.refl _ _).alloc (Nat.le_refl _) _⟩
 ·have HX := Lib.hid h5
  clear h5
  go_enter Tryz.func63, Tryz.ntmps63
  go_wp2_with (at_builtin; refine wpList_append_own _ rfl (.tmp 5) (.tmp 6) 23 rfl w.heap.size 5 i0 (.int .u8 0) 1 1 Tryz.underlying23 hi hz0 hz1 hz2 rfl (by decide) _ 0 [] rfl ?own a n c (xs.map (Value.int .u8)) rfl ?c1 ?c2 ?c3 ?c4 ?c5 ?c6 ?_)
  case own => exact World.ownsRow_made w mc n (Nat.le_refl _) (by unfold maxLen; omega) hmc
  case c1 => simp [h1]
  case c2 =>
   intro j u hj
   rw [List.getElem?_map, Option.map_eq_some_iff] at hj
   obtain ⟨x, hx, rfl⟩ := hj
   have hjn : j < n := by rw [← h1]; exact (List.getElem?_eq_some_iff.1 hx).1
   have hcx := HX.out j hjn
   rw [hx] at hcx
   rw [World.cell?_alloc_lt _ _ _ (World.block_lt_of_cell? _ _ hcx)]
   exact hcx
  case c3 =>
   intro u hu
   obtain ⟨x, _, rfl⟩ := List.mem_map.1 hu
   rfl
  case c4 => unfold maxLen; omega
  case c5 => omega
  case c6 => simp
  intro v' w1 hown hgrow hnn
  have hb1 : Below w.heap.size w w1 := ((Below.refl _ _).alloc (Nat.le_refl _) _).grown hgrow (by simp) (fun k hk => by simp [Value.ownBlock] at hk; omega)
  have hv : v' ≠ .slice none 0 0 := hnn
  obtain ⟨g, zn, cap, rfl, hg, hu⟩ := f8_of_own h2 hown hv
  clear hown hgrow hnn hv hmk
  go_wp2
  go_ret
  exact ⟨g, cap, by rw [hu.1]; rfl, by rw [hu.1]; exact hu, hg, hb1⟩
end Go.Proofs.YtiajboiobjfcoaaGreatDoor

namespace Go.Proofs.YtiajboiobjfcoaaGreatDoor
open Go.Proofs Go.RowKit
theorem U8.drew {w : World} {A : Option Addr} {n c : Nat} {xs : List Int} (h : U8 w A n c xs) : U8 w.drew A n c xs := h
structure Wrote (g : Nat) (w w' : World) : Prop where
 os : w'.os = w.os
 tape : w'.tape = w.tape
 output : w'.output = w.output
 size : w'.heap.size = w.heap.size
 other : ∀ k, k ≠ g → w'.heap[k]? = w.heap[k]?
theorem Wrote.setRow (g : Nat) (w : World) (cs : Array Value) : Wrote g w (w.setRow g cs) := ⟨rfl, rfl, rfl, setRow_size w g cs, fun k hk => setRow_other w g k cs hk⟩
theorem Wrote.below {g : Nat} {w w' : World} (h : Wrote g w w') {B : Nat} (hB : B ≤ g) : Below B w w' := ⟨h.os, h.tape, h.output, Nat.le_of_eq h.size.symm, fun k hk => h.other k (by omega)⟩
theorem Wrote.cell {g : Nat} {w w' : World} (h : Wrote g w w') {p : Addr} (hp : p.block ≠ g) : w'.cell? p = w.cell? p := by
 unfold World.cell?; rw [h.other _ hp]
theorem Wrote.own {g : Nat} {w w' : World} (h : Wrote g w w') {B size n : Nat} {e : TypeId} {v : Value} {xs : List Value} (ho : w.ownsRow B e size v n xs) (hB : g < B) : w'.ownsRow B e size v n xs := by
 refine ⟨ho.1, ho.2.imp id ?_⟩
 rintro ⟨k, cap, cur, rfl, hk, hh, h3⟩
 exact ⟨k, cap, cur, rfl, hk, (h.other k (by omega)).trans hh, h3⟩
theorem run_storeAt_row {P : Program} {w : World} {ty : TypeId} {g off : Nat} {t : TypeId} {cur vals : Array Value} (hg : w.heap[g]? = some (.cells cur t (0, 0))) (hi : (P.info? ty).map (·.size) = some vals.size)
  (hle : off + vals.size ≤ cur.size) (h1 : vals.toList.all (·.oneCell') = true) :
  (Instr.storeAt ty (.pointer (some ⟨g, off, none⟩)) (.agg vals)).run P w = .ok () (w.setRow g (cur.toList.take off ++ vals.toList ++ cur.toList.drop (off + vals.size)).toArray) := by
 have h := run_storeCells_at (P := P) g off t vals.toList 0 cur w hg (by simpa using hle) (fun v hv => List.all_eq_true.1 h1 v hv)
 cases hq : P.info? ty with
 | none => simp [hq] at hi
 | some i =>
  have hs : vals.size = i.size := by simp [hq] at hi; omega
  simp only [Nat.add_zero, Array.length_toList] at h
  simp [Instr.storeAt, Instr.sureAddr, storeVar, sizeOf, typeInfo, hq, Value.cells, hs, Sem.run_bind] at h ⊢
  exact h
theorem wpList_store_row {P : Program} {ops : Array Oper} {rest : List Oper} {o : Oper} {a : Act} {Q : Exit → Act → World → Prop} {w : World} (hgd : o.guard = none) (p x : Operand) (ty : TypeId) (ho : o.op = .store ty p x)
  (g off : Nat) (t : TypeId) (cur vals new : Array Value) (hp : a.eval p = .pointer (some ⟨g, off, none⟩)) (hx : a.eval x = .agg vals) (hg : w.heap[g]? = some (.cells cur t (0, 0))) (hi : (P.info? ty).map (·.size) = some vals.size)
  (hle : off + vals.size ≤ cur.size) (h1 : vals.toList.all (·.oneCell') = true) (hnew : (cur.toList.take off ++ vals.toList ++ cur.toList.drop (off + vals.size)).toArray = new)
  (h : ∀ w', w'.heap[g]? = some (.cells new t (0, 0)) → Wrote g w w' → wpList P ops Q rest (a.put o.dst undef) w') : wpList P ops Q (o :: rest) a w := by
 subst hnew
 refine wpList_plain hgd fun K hK => ?_
 have hrun := run_storeAt_row (P := P) hg hi hle h1
 unfold Oper.wp execOp
 simp only [ho, hp, hx, Sem.run_bind, hrun, Result.andThen_ok, Sem.run_pure, Oper.upon_skip]
 exact hK _ _ (h _ (setRow_heap w g cur _ t _ hg) (Wrote.setRow g w _))
theorem run_loadAt_row {P : Program} {w : World} {ty : TypeId} {g : Nat} {t : TypeId} {cs : Array Value} {d : TypeDesc} (hg : w.heap[g]? = some (.cells cs t (0, 0))) (hty : P.underlying ty = some d)
  (hd : (match d with | .struct _ | .array _ _ => true | _ => false) = true) (hi : (P.info? ty).map (·.size) = some cs.size) : (Instr.loadAt ty (.pointer (some ⟨g, 0, none⟩))).run P w = .ok (.agg cs) w := by
 have := run_loadVar_row (P := P) w g t ty cs (0, 0) d hg hty hd hi
 simp [Instr.loadAt, Instr.sureAddr, this]
theorem wpList_load_row {P : Program} {ops : Array Oper} {rest : List Oper} {o : Oper} {a : Act} {Q : Exit → Act → World → Prop} {w : World} (hgd : o.guard = none) (p : Operand) (ty : TypeId) (ho : o.op = .load ty p)
  (g : Nat) (t : TypeId) (cs : Array Value) (d : TypeDesc) (hp : a.eval p = .pointer (some ⟨g, 0, none⟩)) (hg : w.heap[g]? = some (.cells cs t (0, 0))) (hty : P.underlying ty = some d)
  (hd : (match d with | .struct _ | .array _ _ => true | _ => false) = true) (hi : (P.info? ty).map (·.size) = some cs.size)
  (h : wpList P ops Q rest (a.put o.dst (.agg cs)) w) : wpList P ops Q (o :: rest) a w := by
 refine wpList_plain hgd fun K hK => ?_
 have hrun := run_loadAt_row (P := P) hg hty hd hi
 unfold Oper.wp execOp
 simp only [ho, hp, Sem.run_bind, hrun, Result.andThen_ok, Sem.run_pure, Oper.upon_value]
 exact hK _ _ h
theorem ret_cell {P : Program} {fn : Func} {p u : Tmp} {ty : TypeId} {R : Ending → World → Prop} {a : Act} {w : World} (g : Nat) (t : TypeId) (cs : Array Value) (d : TypeDesc) (v : Value) (hres : fn.results = #[.cell p ty, .tmp u])
  (hp : a.tmps.getD p undef = .pointer (some ⟨g, 0, none⟩)) (hu : a.tmps.getD u undef = v) (hg : w.heap[g]? = some (.cells cs t (0, 0))) (hty : P.underlying ty = some d) (hd : (match d with | .struct _ | .array _ _ => true | _ => false) = true)
  (hi : (P.info? ty).map (·.size) = some cs.size) (hde : a.defers = []) (hR : R (.returned (.tuple #[.agg cs, v])) w) : bodyPost P fn R .ret a w := by
 refine bodyPost_ret_by ?_ hde hR
 rw [results_cell_tmp hres, hp, hu]
 have := run_loadVar_row (P := P) w g t ty cs (0, 0) d hg hty hd hi
 simp [asAddr, this]
theorem own_below {w w' : World} {B e size n : Nat} {v : Value} {xs : List Value} (h : w.ownsRow B e size v n xs) (hb : Below w.heap.size w w') : w'.ownsRow B e size v n xs := by
 refine ⟨h.1, h.2.imp id ?_⟩
 rintro ⟨g, cap, cur, rfl, hg, hh, h3⟩
 exact ⟨g, cap, cur, rfl, hg, (hb.block g (Array.getElem?_eq_some_iff.1 hh).1).trans hh, h3⟩
theorem own_ge {w : World} {base size n : Nat} {e : TypeId} {v : Value} {xs : List Value} (h : w.ownsRow base e size v n xs) : ∀ k, v.ownBlock = some k → base ≤ k := by
 intro k hk
 rcases h.2 with ⟨rfl, _⟩ | ⟨g, cap, cur, rfl, hg, _⟩
 ·simp [Value.ownBlock] at hk
 ·simp [Value.ownBlock] at hk; omega
theorem heap_below {w w' : World} {g : Nat} {o : Obj} (h : w.heap[g]? = some o) (hb : Below w.heap.size w w') : w'.heap[g]? = some o :=
 (hb.block g (Array.getElem?_eq_some_iff.1 h).1).trans h
theorem heap_grown {w w' : World} {g : Nat} {o : Obj} {row : Option Nat} (h : w.heap[g]? = some o) (hg : w.grownBy w' row) (hr : row ≠ some g) : w'.heap[g]? = some o :=
 (hg.block g (Array.getElem?_eq_some_iff.1 h).1 fun e => hr e.symm).trans h
theorem below_undrew {B : Nat} {w w' : World} (h : Below B w.drew w') : Below B w w' := ⟨h.os, h.tape, h.output, h.size, h.block⟩
structure Put1 (g : Nat) (w w' : World) (cs' : Array Value) (t : TypeId) : Prop where
 heap : w'.heap[g]? = some (.cells cs' t (0, 0))
 wrote : Wrote g w w'
theorem Wrote.trans {g : Nat} {a b c : World} (h : Wrote g a b) (h' : Wrote g b c) : Wrote g a c :=
 ⟨h'.os.trans h.os, h'.tape.trans h.tape, h'.output.trans h.output, h'.size.trans h.size, fun k hk => (h'.other k hk).trans (h.other k hk)⟩
theorem Wrote.refl (g : Nat) (w : World) : Wrote g w w := ⟨rfl, rfl, rfl, rfl, fun _ _ => rfl⟩
theorem setCell_heap {w : World} {g : Nat} {cs : Array Value} {t : TypeId} (h : w.heap[g]? = some (.cells cs t (0, 0))) (i : Nat) (v : Value) : (w.setCell ⟨g, i, none⟩ v).heap[g]? = some (.cells (cs.setIfInBounds i v) t (0, 0)) := by
 rw [setCell_eq_setRow w g i cs t (0, 0) v h]; exact setRow_heap _ _ _ _ _ _ h
theorem Wrote.setCell {w0 w : World} {g : Nat} (h : Wrote g w0 w) (i : Nat) (v : Value) : Wrote g w0 (w.setCell ⟨g, i, none⟩ v) := by
 refine h.trans ⟨rfl, rfl, rfl, by simp [World.setCell], fun k hk => ?_⟩
 simp only [World.setCell, Array.getElem?_modify]
 rw [if_neg (fun e => hk e.symm)]
theorem Put1.refl {w : World} {g : Nat} {cs : Array Value} {t : TypeId} (h : w.heap[g]? = some (.cells cs t (0, 0))) : Put1 g w w cs t := ⟨h, Wrote.refl g w⟩
theorem Put1.set {w0 w : World} {g : Nat} {cs : Array Value} {t : TypeId} (h : Put1 g w0 w cs t) (i : Nat) (v : Value) : Put1 g w0 (w.setCell ⟨g, i, none⟩ v) (cs.setIfInBounds i v) t := ⟨setCell_heap h.heap i v, h.wrote.setCell i v⟩
theorem alloc2_0 (w : World) (a b : Obj) : ((w.alloc a).alloc b).heap[w.heap.size]? = some a := by
 have e := (((Below.refl (w.alloc a).heap.size (w.alloc a)).alloc (Nat.le_refl _) b).block w.heap.size (by simp))
 rw [e]
 exact heap_alloc_new w a
theorem alloc2_1 (w : World) (a b : Obj) : ((w.alloc a).alloc b).heap[w.heap.size + 1]? = some b := by
 have h := heap_alloc_new (w.alloc a) b
 rwa [World.size_alloc] at h
theorem alloc3_0 (w : World) (a b c : Obj) : (((w.alloc a).alloc b).alloc c).heap[w.heap.size]? = some a := by
 show (((w.heap.push a).push b).push c)[w.heap.size]? = some a
 simp [Array.getElem?_push]; omega
theorem alloc3_1 (w : World) (a b c : Obj) : (((w.alloc a).alloc b).alloc c).heap[w.heap.size + 1]? = some b := by
 have e := (((Below.refl ((w.alloc a).alloc b).heap.size ((w.alloc a).alloc b)).alloc (Nat.le_refl _) c).block (w.heap.size + 1) (by simp))
 rw [e]
 show ((w.heap.push a).push b)[w.heap.size + 1]? = some b
 have h := Array.getElem?_push_size (xs := w.heap.push a) (x := b)
 rwa [Array.size_push] at h
theorem alloc3_2 (w : World) (a b c : Obj) : (((w.alloc a).alloc b).alloc c).heap[w.heap.size + 1 + 1]? = some c := by
 show (((w.heap.push a).push b).push c)[w.heap.size + 1 + 1]? = some c
 have h := Array.getElem?_push_size (xs := (w.heap.push a).push b) (x := c)
 rwa [Array.size_push, Array.size_push] at h
theorem frozen_of {w : World} {g : Nat} {cs : Array Value} {t : TypeId} (h : w.heap[g]? = some (.cells cs t (0, 0))) (j : Nat) : w.frozen? ⟨g, j, none⟩ = false := by simp [World.frozen?, h]
theorem cell_of {w : World} {g : Nat} {cs : Array Value} {t : TypeId} (h : w.heap[g]? = some (.cells cs t (0, 0))) (j : Nat) : w.cell? ⟨g, j, none⟩ = cs[j]? := cell_of_row w g j cs t (0, 0) h
end Go.Proofs.YtiajboiobjfcoaaGreatDoor
