/-
  What is proved here: a store of a whole struct, or of a part of it, into a block that is known, as a law of the walk.
  Conditions: none.
-/
import Derived.Test.YtdiameckiihppaaDoorQBase
import Derived.Laws.CopyRow
import Derived.Laws.Rows
import Derived.Laws.ResultCell
namespace Go.Proofs.YtdiameckiihppaaDoor
open Go.Proofs Go.RowKit

theorem U8.drew {w : World} {A : Option Addr} {n c : Nat} {xs : List Int} (h : U8 w A n c xs) : U8 w.drew A n c xs := h

/-- only the block g has changed -/
structure Wrote (g : Nat) (w w' : World) : Prop where
  os : w'.os = w.os
  tape : w'.tape = w.tape
  output : w'.output = w.output
  size : w'.heap.size = w.heap.size
  other : ∀ k, k ≠ g → w'.heap[k]? = w.heap[k]?

theorem Wrote.setRow (g : Nat) (w : World) (cs : Array Value) : Wrote g w (w.setRow g cs) := ⟨rfl, rfl, rfl, setRow_size w g cs, fun k hk => setRow_other w g k cs hk⟩
theorem Wrote.below {g : Nat} {w w' : World} (h : Wrote g w w') {B : Nat} (hB : B ≤ g) : Below B w w' := ⟨h.os, h.tape, h.output, Nat.le_of_eq h.size.symm, fun k hk => h.other k (by omega)⟩
theorem Wrote.cell {g : Nat} {w w' : World} (h : Wrote g w w') {p : Addr} (hp : p.block ≠ g) : w'.cell? p = w.cell? p := by
  unfold World.cell?; rw [h.other _ hp]
theorem Wrote.own {g : Nat} {w w' : World} (h : Wrote g w w') {B size n : Nat} {e : TypeId} {v : Value} {xs : List Value} (ho : w.ownsRow B e size v n xs) (hB : g < B) : w'.ownsRow B e size v n xs := by
  refine ⟨ho.1, ho.2.imp id ?_⟩
  rintro ⟨k, cap, cur, rfl, hk, hh, h3⟩
  exact ⟨k, cap, cur, rfl, hk, (h.other k (by omega)).trans hh, h3⟩

theorem run_storeAt_row {P : Program} {w : World} {ty : TypeId} {g off : Nat} {t : TypeId} {cur vals : Array Value} (hg : w.heap[g]? = some (.cells cur t (0, 0))) (hi : (P.info? ty).map (·.size) = some vals.size)
    (hle : off + vals.size ≤ cur.size) (h1 : vals.toList.all (·.oneCell') = true) :
    (Instr.storeAt ty (.pointer (some ⟨g, off, none⟩)) (.agg vals)).run P w = .ok () (w.setRow g (cur.toList.take off ++ vals.toList ++ cur.toList.drop (off + vals.size)).toArray) := by
  have h := run_storeCells_at (P := P) g off t vals.toList 0 cur w hg (by simpa using hle) (fun v hv => List.all_eq_true.1 h1 v hv)
  cases hq : P.info? ty with
  | none => simp [hq] at hi
  | some i =>
    have hs : vals.size = i.size := by simp [hq] at hi; omega
    simp only [Nat.add_zero, Array.length_toList] at h
    simp [Instr.storeAt, Instr.sureAddr, storeVar, sizeOf, typeInfo, hq, Value.cells, hs, Sem.run_bind] at h ⊢
    exact h

theorem wpList_store_row {P : Program} {ops : Array Oper} {rest : List Oper} {o : Oper} {a : Act} {Q : Exit → Act → World → Prop} {w : World} (hgd : o.guard = none) (p x : Operand) (ty : TypeId) (ho : o.op = .store ty p x)
    (g off : Nat) (t : TypeId) (cur vals new : Array Value) (hp : a.eval p = .pointer (some ⟨g, off, none⟩)) (hx : a.eval x = .agg vals) (hg : w.heap[g]? = some (.cells cur t (0, 0))) (hi : (P.info? ty).map (·.size) = some vals.size)
    (hle : off + vals.size ≤ cur.size) (h1 : vals.toList.all (·.oneCell') = true) (hnew : (cur.toList.take off ++ vals.toList ++ cur.toList.drop (off + vals.size)).toArray = new)
    (h : ∀ w', w'.heap[g]? = some (.cells new t (0, 0)) → Wrote g w w' → wpList P ops Q rest (a.put o.dst undef) w') : wpList P ops Q (o :: rest) a w := by
  subst hnew
  refine wpList_plain hgd fun K hK => ?_
  have hrun := run_storeAt_row (P := P) hg hi hle h1
  unfold Oper.wp execOp
  simp only [ho, hp, hx, Sem.run_bind, hrun, Result.andThen_ok, Sem.run_pure, Oper.upon_skip]
  exact hK _ _ (h _ (setRow_heap w g cur _ t _ hg) (Wrote.setRow g w _))
/-- the same, at a step of a region whose order is drawn -/
theorem step_store_row {P : Program} {ops : Array Oper} {o : Oper} {a : Act} {K : Act → World → Prop} {Q : Exit → Act → World → Prop} {E : Prop} {w : World} (hgd : o.guard = none) (p x : Operand) (ty : TypeId) (ho : o.op = .store ty p x)
    (g off : Nat) (t : TypeId) (cur vals new : Array Value) (hp : a.eval p = .pointer (some ⟨g, off, none⟩)) (hx : a.eval x = .agg vals) (hg : w.heap[g]? = some (.cells cur t (0, 0))) (hi : (P.info? ty).map (·.size) = some vals.size)
    (hle : off + vals.size ≤ cur.size) (h1 : vals.toList.all (·.oneCell') = true) (hnew : (cur.toList.take off ++ vals.toList ++ cur.toList.drop (off + vals.size)).toArray = new)
    (h : ∀ w', w'.heap[g]? = some (.cells new t (0, 0)) → Wrote g w w' → K (a.put o.dst undef) w') : if Region.wanted o (yielded ops a.tmps) = true then Oper.wp P o a w K Q else E := by
  subst hnew
  have hw : Region.wanted o (yielded ops a.tmps) = true := by simp [Region.wanted, hgd]
  rw [if_pos hw]
  have hrun := run_storeAt_row (P := P) hg hi hle h1
  unfold Oper.wp execOp
  simp only [ho, hp, hx, Sem.run_bind, hrun, Result.andThen_ok, Sem.run_pure, Oper.upon_skip]
  exact h _ (setRow_heap w g cur _ t _ hg) (Wrote.setRow g w _)

theorem run_loadAt_row {P : Program} {w : World} {ty : TypeId} {g : Nat} {t : TypeId} {cs : Array Value} {d : TypeDesc} (hg : w.heap[g]? = some (.cells cs t (0, 0))) (hty : P.underlying ty = some d)
    (hd : (match d with | .struct _ | .array _ _ => true | _ => false) = true) (hi : (P.info? ty).map (·.size) = some cs.size) : (Instr.loadAt ty (.pointer (some ⟨g, 0, none⟩))).run P w = .ok (.agg cs) w := by
  have := run_loadVar_row (P := P) w g t ty cs (0, 0) d hg hty hd hi
  simp [Instr.loadAt, Instr.sureAddr, this]

theorem wpList_load_row {P : Program} {ops : Array Oper} {rest : List Oper} {o : Oper} {a : Act} {Q : Exit → Act → World → Prop} {w : World} (hgd : o.guard = none) (p : Operand) (ty : TypeId) (ho : o.op = .load ty p)
    (g : Nat) (t : TypeId) (cs : Array Value) (d : TypeDesc) (hp : a.eval p = .pointer (some ⟨g, 0, none⟩)) (hg : w.heap[g]? = some (.cells cs t (0, 0))) (hty : P.underlying ty = some d)
    (hd : (match d with | .struct _ | .array _ _ => true | _ => false) = true) (hi : (P.info? ty).map (·.size) = some cs.size)
    (h : wpList P ops Q rest (a.put o.dst (.agg cs)) w) : wpList P ops Q (o :: rest) a w := by
  refine wpList_plain hgd fun K hK => ?_
  have hrun := run_loadAt_row (P := P) hg hty hd hi
  unfold Oper.wp execOp
  simp only [ho, hp, Sem.run_bind, hrun, Result.andThen_ok, Sem.run_pure, Oper.upon_value]
  exact hK _ _ h

theorem step_load_row {P : Program} {ops : Array Oper} {o : Oper} {a : Act} {K : Act → World → Prop} {Q : Exit → Act → World → Prop} {E : Prop} {w : World} (hgd : o.guard = none) (p : Operand) (ty : TypeId) (ho : o.op = .load ty p)
    (g : Nat) (t : TypeId) (cs : Array Value) (d : TypeDesc) (hp : a.eval p = .pointer (some ⟨g, 0, none⟩)) (hg : w.heap[g]? = some (.cells cs t (0, 0))) (hty : P.underlying ty = some d)
    (hd : (match d with | .struct _ | .array _ _ => true | _ => false) = true) (hi : (P.info? ty).map (·.size) = some cs.size)
    (h : K (a.put o.dst (.agg cs)) w) : if Region.wanted o (yielded ops a.tmps) = true then Oper.wp P o a w K Q else E := by
  have hw : Region.wanted o (yielded ops a.tmps) = true := by simp [Region.wanted, hgd]
  rw [if_pos hw]
  have hrun := run_loadAt_row (P := P) hg hty hd hi
  unfold Oper.wp execOp
  simp only [ho, hp, Sem.run_bind, hrun, Result.andThen_ok, Sem.run_pure, Oper.upon_value]
  exact h

/-- a function leaves with a struct that lies in a block of its own, and a slot -/
theorem ret_cell {P : Program} {fn : Func} {p u : Tmp} {ty : TypeId} {R : Ending → World → Prop} {a : Act} {w : World} (g : Nat) (t : TypeId) (cs : Array Value) (d : TypeDesc) (v : Value) (hres : fn.results = #[.cell p ty, .tmp u])
    (hp : a.tmps.getD p undef = .pointer (some ⟨g, 0, none⟩)) (hu : a.tmps.getD u undef = v) (hg : w.heap[g]? = some (.cells cs t (0, 0))) (hty : P.underlying ty = some d) (hd : (match d with | .struct _ | .array _ _ => true | _ => false) = true)
    (hi : (P.info? ty).map (·.size) = some cs.size) (hde : a.defers = []) (hR : R (.returned (.tuple #[.agg cs, v])) w) : bodyPost P fn R .ret a w := by
  refine bodyPost_ret_by ?_ hde hR
  rw [results_cell_tmp hres, hp, hu]
  have := run_loadVar_row (P := P) w g t ty cs (0, 0) d hg hty hd hi
  simp [asAddr, this]

theorem own_below {w w' : World} {B e size n : Nat} {v : Value} {xs : List Value} (h : w.ownsRow B e size v n xs) (hb : Below w.heap.size w w') : w'.ownsRow B e size v n xs := by
  refine ⟨h.1, h.2.imp id ?_⟩
  rintro ⟨g, cap, cur, rfl, hg, hh, h3⟩
  exact ⟨g, cap, cur, rfl, hg, (hb.block g (Array.getElem?_eq_some_iff.1 hh).1).trans hh, h3⟩
theorem own_ge {w : World} {base size n : Nat} {e : TypeId} {v : Value} {xs : List Value} (h : w.ownsRow base e size v n xs) : ∀ k, v.ownBlock = some k → base ≤ k := by
  intro k hk
  rcases h.2 with ⟨rfl, _⟩ | ⟨g, cap, cur, rfl, hg, _⟩
  · simp [Value.ownBlock] at hk
  · simp [Value.ownBlock] at hk; omega
theorem heap_below {w w' : World} {g : Nat} {o : Obj} (h : w.heap[g]? = some o) (hb : Below w.heap.size w w') : w'.heap[g]? = some o :=
  (hb.block g (Array.getElem?_eq_some_iff.1 h).1).trans h
theorem heap_grown {w w' : World} {g : Nat} {o : Obj} {row : Option Nat} (h : w.heap[g]? = some o) (hg : w.grownBy w' row) (hr : row ≠ some g) : w'.heap[g]? = some o :=
  (hg.block g (Array.getElem?_eq_some_iff.1 h).1 fun e => hr e.symm).trans h
theorem below_undrew {B : Nat} {w w' : World} (h : Below B w.drew w') : Below B w w' := ⟨h.os, h.tape, h.output, h.size, h.block⟩
/-- a store into a block that is known -/
structure Put1 (g : Nat) (w w' : World) (cs' : Array Value) (t : TypeId) : Prop where
  heap : w'.heap[g]? = some (.cells cs' t (0, 0))
  wrote : Wrote g w w'
theorem Wrote.trans {g : Nat} {a b c : World} (h : Wrote g a b) (h' : Wrote g b c) : Wrote g a c :=
  ⟨h'.os.trans h.os, h'.tape.trans h.tape, h'.output.trans h.output, h'.size.trans h.size, fun k hk => (h'.other k hk).trans (h.other k hk)⟩
theorem Wrote.refl (g : Nat) (w : World) : Wrote g w w := ⟨rfl, rfl, rfl, rfl, fun _ _ => rfl⟩
theorem setCell_heap {w : World} {g : Nat} {cs : Array Value} {t : TypeId} (h : w.heap[g]? = some (.cells cs t (0, 0))) (i : Nat) (v : Value) : (w.setCell ⟨g, i, none⟩ v).heap[g]? = some (.cells (cs.setIfInBounds i v) t (0, 0)) := by
  rw [setCell_eq_setRow w g i cs t (0, 0) v h]; exact setRow_heap _ _ _ _ _ _ h
theorem Wrote.setCell {w0 w : World} {g : Nat} (h : Wrote g w0 w) (i : Nat) (v : Value) : Wrote g w0 (w.setCell ⟨g, i, none⟩ v) := by
  refine h.trans ⟨rfl, rfl, rfl, by simp [World.setCell], fun k hk => ?_⟩
  simp only [World.setCell, Array.getElem?_modify]
  rw [if_neg (fun e => hk e.symm)]
theorem Put1.refl {w : World} {g : Nat} {cs : Array Value} {t : TypeId} (h : w.heap[g]? = some (.cells cs t (0, 0))) : Put1 g w w cs t := ⟨h, Wrote.refl g w⟩
theorem Put1.set {w0 w : World} {g : Nat} {cs : Array Value} {t : TypeId} (h : Put1 g w0 w cs t) (i : Nat) (v : Value) : Put1 g w0 (w.setCell ⟨g, i, none⟩ v) (cs.setIfInBounds i v) t := ⟨setCell_heap h.heap i v, h.wrote.setCell i v⟩

theorem alloc2_0 (w : World) (a b : Obj) : ((w.alloc a).alloc b).heap[w.heap.size]? = some a := by
  have e := (((Below.refl (w.alloc a).heap.size (w.alloc a)).alloc (Nat.le_refl _) b).block w.heap.size (by simp))
  rw [e]
  exact heap_alloc_new w a
theorem alloc2_1 (w : World) (a b : Obj) : ((w.alloc a).alloc b).heap[w.heap.size + 1]? = some b := by
  have h := heap_alloc_new (w.alloc a) b
  rwa [World.size_alloc] at h
theorem alloc3_0 (w : World) (a b c : Obj) : (((w.alloc a).alloc b).alloc c).heap[w.heap.size]? = some a := by
  show (((w.heap.push a).push b).push c)[w.heap.size]? = some a
  simp [Array.getElem?_push]; omega
theorem alloc3_1 (w : World) (a b c : Obj) : (((w.alloc a).alloc b).alloc c).heap[w.heap.size + 1]? = some b := by
  have e := (((Below.refl ((w.alloc a).alloc b).heap.size ((w.alloc a).alloc b)).alloc (Nat.le_refl _) c).block (w.heap.size + 1) (by simp))
  rw [e]
  show ((w.heap.push a).push b)[w.heap.size + 1]? = some b
  have h := Array.getElem?_push_size (xs := w.heap.push a) (x := b)
  rwa [Array.size_push] at h
theorem alloc3_2 (w : World) (a b c : Obj) : (((w.alloc a).alloc b).alloc c).heap[w.heap.size + 1 + 1]? = some c := by
  show (((w.heap.push a).push b).push c)[w.heap.size + 1 + 1]? = some c
  have h := Array.getElem?_push_size (xs := (w.heap.push a).push b) (x := c)
  rwa [Array.size_push, Array.size_push] at h
theorem frozen_of {w : World} {g : Nat} {cs : Array Value} {t : TypeId} (h : w.heap[g]? = some (.cells cs t (0, 0))) (j : Nat) : w.frozen? ⟨g, j, none⟩ = false := by simp [World.frozen?, h]

/-- the cells of a block that is known -/
theorem cell_of {w : World} {g : Nat} {cs : Array Value} {t : TypeId} (h : w.heap[g]? = some (.cells cs t (0, 0))) (j : Nat) : w.cell? ⟨g, j, none⟩ = cs[j]? := cell_of_row w g j cs t (0, 0) h
end Go.Proofs.YtdiameckiihppaaDoor
