/-
  What is proved here: the evaluator's new blocks are those of the model.
  Conditions: none.
-/
import Derived.Test.YtcipfcbaclfnhaaSyBuild
namespace Go.Sy

def Cx.addB (c : Cx) (w : World) : Cx := { c with β := fun i => if i = c.nb then (w.heap.size, 0) else c.β i, nb := c.nb + 1 }
def Cx.addT (c : Cx) (n : Nat) : Cx := { c with γ := fun i => if i = c.nt then n else c.γ i, nt := c.nt + 1 }

theorem Cx.le_addB (c : Cx) (w : World) : c.le (c.addB w) := ⟨rfl, Nat.le_succ _, Nat.le_refl _, fun i hi => if_neg (by omega), fun _ _ => rfl⟩
theorem Cx.le_addT (c : Cx) (n : Nat) : c.le (c.addT n) := ⟨rfl, Nat.le_refl _, Nat.le_succ _, fun _ _ => rfl, fun i hi => if_neg (by omega)⟩

section ops
variable {P : Program} {c : Cx} {m : Mem} {w : World} {p q : Pc}

theorem Cx.addB_new : (c.addB w).β c.nb = (w.heap.size, 0) := if_pos rfl
theorem Cx.addB_old {i : Nat} (h : i < c.nb) : (c.addB w).β i = c.β i := if_neg (by omega)

theorem heap_push_old (w : World) (o : Obj) {i : Nat} (h : i < w.heap.size) : (w.alloc o).heap[i]? = w.heap[i]? := by
  show (w.heap.push o)[i]? = w.heap[i]?
  rw [Array.getElem?_push_lt h, Array.getElem?_eq_getElem h]
theorem heap_push_new (w : World) (o : Obj) : (w.alloc o).heap[w.heap.size]? = some o := by
  show (w.heap.push o)[w.heap.size]? = some o
  simp

/-- a new block -/
theorem Step.new (hm : MemR c m w) {b : Blk} {o : Obj} (hb : BlkR (c.addB w) (w.alloc o) (w.heap.size, 0) b) :
    Step c m w (c.addB w) ⟨m.tr.set m.nb b, Nat.succ m.nb, m.tok, m.nt⟩ (w.alloc o) := by
  have hlt : ∀ i b', m.tr.get i = some b' → i < c.nb ∧ (b'.live c → (c.β i).1 < w.heap.size) := fun i b' h => ⟨(hm.blk i b' h).1, (hm.blk i b' h).2.lt⟩
  have hget : ∀ i b', (m.tr.set m.nb b).get i = some b' → i = c.nb ∧ b' = b ∨ i ≠ c.nb ∧ m.tr.get i = some b' := by
    intro i b' h
    rw [Tr.get_set, ← hm.nb] at h
    split at h
    · rename_i e; simp at h; exact .inl ⟨e, h.symm⟩
    · rename_i e; exact .inr ⟨e, h⟩
  refine ⟨⟨?_, hm.nt, ?_, ?_, hm.tok⟩, c.le_addB w, rfl, rfl, rfl, ?_, ?_, ?_⟩
  · show c.nb + 1 = m.nb + 1; rw [hm.nb]
  · intro i b' h
    rcases hget i b' h with ⟨rfl, rfl⟩ | ⟨hi, h⟩
    · exact ⟨Nat.lt_succ_self _, by rw [Cx.addB_new]; exact hb⟩
    · obtain ⟨h1, h2⟩ := hm.blk i b' h
      refine ⟨Nat.lt_succ_of_lt h1, ?_⟩
      rw [Cx.addB_old h1]
      exact (h2.world' (fun hl => heap_push_old w o (h2.lt hl))).mono (c.le_addB w)
  · intro i j b1 b2 h1 h2 hij hap l1 l2
    rw [Blk.live_le (c.le_addB w)] at l1 l2
    rcases hget i b1 h1 with ⟨rfl, e1⟩ | ⟨hi, g1⟩ <;> rcases hget j b2 h2 with ⟨rfl, e2⟩ | ⟨hj, g2⟩
    · exact absurd rfl hij
    · obtain ⟨h3, h4⟩ := hlt j b2 g2
      rw [Cx.addB_new, Cx.addB_old h3]
      have h4 := h4 l2
      exact fun e => by have e : w.heap.size = _ := e; omega
    · obtain ⟨h3, h4⟩ := hlt i b1 g1
      rw [Cx.addB_new, Cx.addB_old h3]
      have h4 := h4 l1
      exact fun e => by have e : _ = w.heap.size := e; omega
    · rw [Cx.addB_old (hlt i b1 g1).1, Cx.addB_old (hlt j b2 g2).1]
      exact hm.inj i j b1 b2 g1 g2 hij hap l1 l2
  · show w.heap.size ≤ (w.heap.push o).size; simp
  · intro b' hb' _; exact heap_push_old w o hb'
  · rintro b' ⟨i, blk, h1, h2, h3⟩
    rcases hget i blk h1 with ⟨rfl, rfl⟩ | ⟨hi, h1⟩
    · right; rw [Cx.addB_new] at h3; exact Nat.le_of_eq h3
    · left; rw [Cx.addB_old (hlt i blk h1).1] at h3; exact ⟨i, blk, h1, h2, h3⟩

/-- a new token -/
theorem Step.tok (hm : MemR c m w) {lb n : Nat} (h : lb ≤ n) : Step c m w (c.addT n) ⟨m.tr, m.nb, m.tok.set m.nt lb, Nat.succ m.nt⟩ w := by
  refine ⟨⟨hm.nb, ?_, ?_, hm.inj, ?_⟩, c.le_addT n, rfl, rfl, rfl, Nat.le_refl _, fun _ _ _ => rfl, fun b hb => .inl hb⟩
  · show c.nt + 1 = m.nt + 1; rw [hm.nt]
  · intro i b hb; exact ⟨(hm.blk i b hb).1, (hm.blk i b hb).2.mono (c.le_addT n)⟩
  · intro t k hk
    have hk : (m.tok.set m.nt lb).get t = some k := hk
    rw [Tr.get_set, ← hm.nt] at hk
    split at hk
    · rename_i e; simp at hk; subst hk; subst e
      exact ⟨Nat.lt_succ_self _, by show _ ≤ (if c.nt = c.nt then n else c.γ c.nt); rw [if_pos rfl]; exact h⟩
    · obtain ⟨h1, h2⟩ := hm.tok t k hk
      exact ⟨Nat.lt_succ_of_lt h1, by show k ≤ (if t = c.nt then n else c.γ t); rw [if_neg (by omega)]; exact h2⟩

theorem newBlk_gives {b : Blk} {i : Nat} {m' : Mem} (h : (newBlk b).gives c.ρ m p i m' q) : i = m.nb ∧ m' = ⟨m.tr.set m.nb b, Nat.succ m.nb, m.tok, m.nt⟩ ∧ q = p := by
  cases m
  simp [M.gives, newBlk, T.out] at h
  exact ⟨h.1.symm, h.2.1.symm, h.2.2.symm⟩
theorem newTok_gives {lb : Nat} {i : Nat} {m' : Mem} (h : (newTok lb).gives c.ρ m p i m' q) : i = m.nt ∧ m' = ⟨m.tr, m.nb, m.tok.set m.nt lb, Nat.succ m.nt⟩ ∧ q = p := by
  cases m
  simp [M.gives, newTok, T.out] at h
  exact ⟨h.1.symm, h.2.1.symm, h.2.2.symm⟩

/-- a row of cells -/
theorem BlkR.new {l : List V} {cs : Array Value} {t : TypeId} (hl : VRs c l cs.toList) : BlkR (c.addB w) (w.alloc (.cells cs t)) (w.heap.size, 0) (newCells l) := by
  refine ⟨cs, t, (0, 0), heap_push_new w _, fun j v hj => ?_, fun _ => rfl, fun _ => .inl rfl, trivial⟩
  obtain ⟨x, hx, hr⟩ := hl.get hj
  exact ⟨x, by simpa using hx, hr.mono (c.le_addB w)⟩

/-- what an operation that makes a block does -/
def AlOK (P : Program) (c : Cx) (w : World) (bs : Blk × Shp) (s : Sem Value) : Prop :=
  ∃ o z, s.run P w = .ok z (w.alloc o) ∧ BlkR (c.addB w) (w.alloc o) (w.heap.size, 0) bs.1 ∧ VR (c.addB w) (bs.2.val c.nb) z

theorem ptr_new : VR (c.addB w) (Shp.ptr.val c.nb) (.pointer (some ⟨w.heap.size, 0, none⟩)) :=
  VR.ptr.2 ⟨Nat.lt_succ_self _, by unfold Cx.ad; rw [Cx.addB_new]⟩

theorem alloc_ok {t : TypeId} {bs : Blk × Shp} (h : (R.opt "alloc no zero" ((zeroOf P t).map fun z => (newCells z.cells, Shp.ptr))).gives c.ρ m p bs q) : q = p ∧ AlOK P c w bs (Instr.alloc t true (.tuple #[])) := by
  obtain ⟨h1, rfl⟩ := R.gives_opt h
  obtain ⟨z, hz, rfl⟩ := Option.map_eq_some_iff.1 h1
  obtain ⟨i, zv, _, _, h2, h3⟩ := zeroOf_ok hz
  exact ⟨rfl, .cells zv.cells t, _, by simp [Instr.alloc, h3, newVar, newRow], BlkR.new ((h2 c).cells (zeroOf_bad hz)), ptr_new⟩

theorem box_ok {t : TypeId} {x : V} {X : Value} {bs : Blk × Shp} (hx : VR c x X) (h : (selB (allCells x.cells) (R.pure (newCells x.cells, Shp.ptr)) (R.fail "box")).gives c.ρ m p bs q) : q = p ∧ AlOK P c w bs (Instr.box t X) := by
  obtain ⟨h1, h2⟩ := R.gives_if h
  obtain ⟨rfl, rfl⟩ := R.gives_pure h2
  exact ⟨rfl, .cells X.cells t, _, by simp [Instr.box, newVar, newRow], BlkR.new (hx.cells (allCells_bad h1)), ptr_new⟩

theorem makeMap_ok {t : TypeId} {r : Option V} {R' : Option Value} {bs : Blk × Shp} (hr : OptR c r R')
    (h : (match r with | none => R.pure (Blk.map [] 0 true, Shp.map) | some x => onInt x (fun _ _ => selB (isMapT P t) (R.pure (.map [] 0 true, .map)) (R.fail "makeMap")) (R.fail "makeMap")).gives c.ρ m p bs q) :
    q = p ∧ AlOK P c w bs (Instr.makeMap t R') := by
  have fin : AlOK P c w (Blk.map [] 0 true, Shp.map) (do pure (.map (some (← newObj (.map #[] 0))))) := by
    refine ⟨.map #[] 0, .map (some w.heap.size), by simp, ⟨#[], heap_push_new w _, rfl, by simp⟩, VR.map.2 ⟨Nat.lt_succ_self _, by rw [Cx.addB_new]⟩⟩
  cases r with
  | none =>
    have hr : R' = none := hr
    subst hr
    obtain ⟨rfl, rfl⟩ := R.gives_pure h
    exact ⟨rfl, fin⟩
  | some x =>
    obtain ⟨X, rfl, hx⟩ := hr
    obtain ⟨k, e, rfl, h1⟩ := onInt_gives h
    obtain ⟨h2, h3⟩ := R.gives_if h1
    obtain ⟨rfl, rfl⟩ := R.gives_pure h3
    obtain ⟨rfl, _⟩ := VR.int.1 hx
    obtain ⟨kt, et, hu⟩ := isMapT_iff h2
    obtain ⟨o, z, h4, h5⟩ := fin
    refine ⟨rfl, o, z, ?_, h5⟩
    simp [Instr.makeMap, run_und hu, asInt, asIntOf]
    simpa using h4

/-! ### rows -/

theorem repl_length (n : Nat) (l : List V) : (repl n l).length = n * l.length := by
  induction n with
  | zero => simp [show repl 0 l = [] from rfl]
  | succ n ih => rw [show repl (n + 1) l = catV l (repl n l) from rfl, catV_eq, List.length_append, ih, Nat.succ_mul]; omega

theorem repl_get (l : List V) : ∀ (n j : Nat), j < n * l.length → (repl n l)[j]? = l[j % l.length]?
  | 0, j, h => by simp at h
  | n + 1, j, h => by
    rw [show repl (n + 1) l = catV l (repl n l) from rfl, catV_eq]
    rw [Nat.succ_mul] at h
    rcases Nat.lt_or_ge j l.length with hj | hj
    · rw [List.getElem?_append_left hj, Nat.mod_eq_of_lt hj]
    · rw [List.getElem?_append_right hj, repl_get l n (j - l.length) (by omega)]
      have : j % l.length = (j - l.length) % l.length := Nat.mod_eq_sub_mod hj
      rw [this]

theorem repl_ok {l : List V} {z : Array Value} (hl : VRs c l z.toList) (n : Nat) : VRs c (repl n l) ((Array.range (n * z.size)).map (z[· % z.size]!)).toList := by
  have hlen : z.size = l.length := by simpa using hl.length
  refine VRs.of_get (by simp [repl_length, hlen]) fun j v hv => ?_
  have hj : j < n * l.length := by
    rcases Nat.lt_or_ge j (n * l.length) with h | h
    · exact h
    · rw [List.getElem?_eq_none (by rw [repl_length]; exact h)] at hv; simp at hv
  rw [repl_get l n j hj] at hv
  obtain ⟨x, hx, hr⟩ := hl.get hv
  refine ⟨x, ?_, hr⟩
  have hpos : j % z.size < z.size := by
    apply Nat.mod_lt
    rw [hlen]
    rcases Nat.eq_zero_or_pos l.length with h | h
    · rw [h] at hj; simp at hj
    · exact h
  rw [← hlen] at hx hj
  have hx : z[j % z.size]? = some x := by simpa using hx
  simp [hj]
  rw [getElem!_pos z _ hpos]
  rw [Array.getElem?_eq_getElem hpos] at hx
  simpa using hx

theorem zcells_ok {t : TypeId} {sz n : Nat} {l : List V} (h : zcells P t sz n = some l) :
    (n * sz = 0 ∧ l = []) ∨ n * sz ≠ 0 ∧ l.length = sz ∧ ∃ z : Value, VRs c l z.cells.toList ∧ ∀ w, (zeroValue t).run P w = .ok z w := by
  unfold zcells at h
  cases hn : Nat.mul n sz with
  | zero =>
    rw [hn] at h
    have h : some [] = some l := h
    simp at h
    exact .inl ⟨hn, h⟩
  | succ k =>
    rw [hn] at h
    have h : zfit sz (zeroOf P t) = some l := h
    cases hz : zeroOf P t with
    | none => rw [hz] at h; simp [zfit] at h
    | some z =>
      rw [hz] at h
      have h : selB (Nat.beq (lenL z.cells) sz) (some z.cells) none = some l := h
      cases hb : Nat.beq (lenL z.cells) sz with
      | false => rw [hb] at h; simp [selB] at h
      | true =>
        rw [hb] at h
        have h : some z.cells = some l := h
        simp at h; subst h
        rw [beq_iff, lenL_eq] at hb
        obtain ⟨i, zv, _, _, h2, h3⟩ := zeroOf_ok hz
        refine .inr ⟨?_, hb, zv, (h2 c).cells (zeroOf_bad hz), h3⟩
        have hn : n * sz = k + 1 := hn
        omega

theorem slice_new {len cap : Nat} (h : len ≤ cap) : VR (c.addB w) ((Shp.slice len cap).val c.nb) (.slice (some ⟨w.heap.size, 0, none⟩) len cap) :=
  VR.slice.2 ⟨Nat.lt_succ_self _, cap, rfl, h, by unfold Cx.ad; rw [Cx.addB_new]⟩

theorem buildSlice_ok {t : TypeId} {n : Nat} {ps : List (Nat × V)} {parts : Array (Nat × Value)} {bs : Blk × Shp} (hp : PartsR c ps parts.toList) (h : (buildSliceR P t n ps).gives c.ρ m p bs q) : q = p ∧ AlOK P c w bs (Instr.buildSlice t n parts) := by
  unfold buildSliceR at h
  cases ha : slcOf P t with
  | none => rw [ha] at h; exact (R.gives_fail h).elim
  | some a =>
    rw [ha] at h
    obtain ⟨hu, hsz⟩ := slcOf_some ha
    obtain ⟨h1, rfl⟩ := R.gives_opt (show (R.opt "buildSlice" ((sliceLit n a.2 ps (zcells P a.1 a.2 n)).map fun l => (newCells l, Shp.slice n n))).gives c.ρ m p bs q from h)
    obtain ⟨r, h2, rfl⟩ := Option.map_eq_some_iff.1 h1
    cases hz : zcells P a.1 a.2 n with
    | none => rw [hz] at h2; simp [sliceLit] at h2
    | some z =>
      rw [hz] at h2
      have h2 : selB (Nat.ble (Nat.mul n a.2) 16777216) (fillV (fun i => some (Nat.mul i a.2, a.2)) ps (repl n z)) none = some r := h2
      cases hb : Nat.ble (Nat.mul n a.2) 16777216 with
      | false => rw [hb] at h2; simp [selB] at h2
      | true =>
        rw [hb] at h2
        have h2 : fillV (fun i => some (Nat.mul i a.2, a.2)) ps (repl n z) = some r := h2
        rw [ble_iff] at hb
        have hb : n * a.2 ≤ 16777216 := hb
        rcases zcells_ok (c := c) hz with ⟨h0, rfl⟩ | ⟨h0, h3, zv, h4, h5⟩
        · have hr : VRs c (repl n []) ((Array.range (n * a.2)).map fun x => (#[] : Array Value)[x % (#[] : Array Value).size]!).toList := by
            rw [h0]
            have : repl n [] = [] := List.eq_nil_of_length_eq_zero (by rw [repl_length]; simp)
            rw [this]; simp; exact VRs.nil
          obtain ⟨cs', h6, h7, _⟩ := fill_ok hp hr h2
          have h6 : Instr.fill (fun i => some (i * a.2, a.2)) ((Array.range (n * a.2)).map fun x => (#[] : Array Value)[x % (#[] : Array Value).size]!) parts.toList = some cs' := h6
          refine ⟨rfl, .cells cs' a.1, _, ?_, BlkR.new h7, slice_new (Nat.le_refl n)⟩
          unfold Instr.buildSlice
          simp only [Sem.run_bind, run_und hu, Result.andThen_ok, run_size hsz]
          rw [if_neg (by omega), if_pos h0]
          simp only [Sem.run_bind, Sem.run_pure, Result.andThen_ok, h6]
          simp [newRow]
        · have hzs : zv.cells.size = a.2 := by have := h4.length; simp at this; omega
          have hr := repl_ok h4 n
          rw [hzs] at hr
          obtain ⟨cs', h6, h7, _⟩ := fill_ok hp hr h2
          have h6 : Instr.fill (fun i => some (i * a.2, a.2)) ((Array.range (n * a.2)).map fun x => zv.cells[x % a.2]!) parts.toList = some cs' := h6
          refine ⟨rfl, .cells cs' a.1, _, ?_, BlkR.new h7, slice_new (Nat.le_refl n)⟩
          unfold Instr.buildSlice
          simp only [Sem.run_bind, run_und hu, Result.andThen_ok, run_size hsz]
          rw [if_neg (by omega), if_neg h0]
          simp only [Sem.run_bind, Sem.run_pure, Result.andThen_ok, h5, hzs, h6]
          simp [newRow]
end ops

end Go.Sy
