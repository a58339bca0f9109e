/-
  What is proved here: the evaluator's built values are those of the model.
  Conditions: none.
-/
import Derived.Test.YtcipfcbaclfnhaaSyRead4
import Derived.Laws.CopyRow
namespace Go.Sy

section ops
variable {P : Program} {c : Cx} {m : Mem} {w : World} {p q : Pc}

theorem over0_ok {α : Type} : ∀ {vs l r : List α}, over0 vs l = some r → vs.length ≤ l.length ∧ r = vs ++ l.drop vs.length
  | [], l, r, h => by
    have h : some l = some r := h
    simp at h; subst h; simp
  | v :: vs, [], r, h => by
    have h : none = some r := h
    simp at h
  | v :: vs, a :: l, r, h => by
    have h : (Option.rec none (fun q => some (v :: q)) (over0 vs l) : Option (List α)) = some r := h
    cases hq : over0 vs l with
    | none => rw [hq] at h; simp at h
    | some q =>
      rw [hq] at h
      have h : some (v :: q) = some r := h
      simp at h; subst h
      obtain ⟨h1, h2⟩ := over0_ok hq
      exact ⟨by simpa using h1, by simp [h2]⟩

theorem over_ok {α : Type} : ∀ {o : Nat} {vs l r : List α}, over o vs l = some r → o + vs.length ≤ l.length ∧ r = l.take o ++ vs ++ l.drop (o + vs.length)
  | 0, vs, l, r, h => by
    obtain ⟨h1, h2⟩ := over0_ok (show over0 vs l = some r from h)
    exact ⟨by omega, by simp [h2]⟩
  | o + 1, vs, [], r, h => by
    have h : none = some r := h
    simp at h
  | o + 1, vs, a :: l, r, h => by
    have h : (Option.rec none (fun q => some (a :: q)) (over o vs l) : Option (List α)) = some r := h
    cases hq : over o vs l with
    | none => rw [hq] at h; simp at h
    | some q =>
      rw [hq] at h
      have h : some (a :: q) = some r := h
      simp at h; subst h
      obtain ⟨h1, h2⟩ := over_ok hq
      refine ⟨by simp; omega, ?_⟩
      have : o + 1 + vs.length = (o + vs.length) + 1 := by omega
      rw [h2, this]; simp

theorem fold_set (off : Nat) : ∀ (L : List Value) (i : Nat) (cs : Array Value), off + i + L.length ≤ cs.size →
    ((L.zipIdx i).foldl (fun (cs : Array Value) (x : Value × Nat) => cs.setIfInBounds (off + x.2) x.1) cs).toList = cs.toList.take (off + i) ++ L ++ cs.toList.drop (off + i + L.length)
  | [], i, cs, _ => by simp
  | v :: L, i, cs, h => by
    simp only [List.zipIdx_cons, List.foldl_cons]
    rw [fold_set off L (i + 1) (cs.setIfInBounds (off + i) v) (by simp at h ⊢; omega)]
    have e := list_seg_step cs.toList (off + i) v L (by simp at h ⊢; omega)
    simpa [Array.toList_setIfInBounds, Nat.add_assoc] using e

theorem VRs.take {l : List V} {xs : List Value} (n : Nat) (h : VRs c l xs) : VRs c (l.take n) (xs.take n) := by
  have hl := h.length
  refine VRs.of_get (by simp [hl]) fun j v hv => ?_
  rw [List.getElem?_take] at hv
  split at hv
  · obtain ⟨x, hx, hr⟩ := h.get hv
    exact ⟨x, by rw [List.getElem?_take, if_pos (by assumption)]; exact hx, hr⟩
  · simp at hv

theorem VRs.drop {l : List V} {xs : List Value} (n : Nat) (h : VRs c l xs) : VRs c (l.drop n) (xs.drop n) := by
  have hl := h.length
  refine VRs.of_get (by simp [hl]) fun j v hv => ?_
  rw [List.getElem?_drop] at hv
  obtain ⟨x, hx, hr⟩ := h.get hv
  exact ⟨x, by rw [List.getElem?_drop]; exact hx, hr⟩

/-- the parts of a value -/
def PartsR (c : Cx) : List (Nat × V) → List (Nat × Value) → Prop
  | [], xs => xs = []
  | v :: l, xs => ∃ x ys, xs = x :: ys ∧ x.1 = v.1 ∧ VR c v.2 x.2 ∧ PartsR c l ys

theorem allCells_cons {v : V} {l : List V} (h : allCells (v :: l) = true) : v.cellb = true ∧ allCells l = true := by
  have h : (Bool.rec false (allCells l) v.cellb : Bool) = true := h
  cases hv : v.cellb <;> rw [hv] at h
  · exact (Bool.false_ne_true h).elim
  · exact ⟨rfl, h⟩

theorem allCells_bad {v : V} (h : allCells v.cells = true) : v ≠ .bad := by
  rintro rfl
  exact (Bool.false_ne_true (allCells_cons (show allCells [V.bad] = true from h)).1).elim

theorem fill_ok {place : Nat → Option (Nat × Nat)} : ∀ {ps : List (Nat × V)} {parts : List (Nat × Value)} {l r : List V} {cs : Array Value}, PartsR c ps parts → VRs c l cs.toList → fillV place ps l = some r →
    ∃ cs' : Array Value, Instr.fill place cs parts = some cs' ∧ VRs c r cs'.toList ∧ cs'.size = cs.size
  | [], parts, l, r, cs, hp, hl, h => by
    have hp : parts = [] := hp
    subst hp
    have h : some l = some r := h
    simp at h; subst h
    exact ⟨cs, rfl, hl, rfl⟩
  | x :: ps, parts, l, r, cs, hp, hl, h => by
    obtain ⟨y, ys, rfl, h1, h2, h3⟩ := hp
    obtain ⟨yi, yv⟩ := y
    have h1 : yi = x.1 := h1
    subst h1
    have h : (Option.rec none (fun l' => fillV place ps l') (fill1 l x.2 (place x.1)) : Option (List V)) = some r := h
    cases hf : fill1 l x.2 (place x.1) with
    | none => rw [hf] at h; simp at h
    | some l' =>
      rw [hf] at h
      have h : fillV place ps l' = some r := h
      cases hpl : place x.1 with
      | none => rw [hpl] at hf; simp [fill1] at hf
      | some a =>
        rw [hpl] at hf
        have hf : selB (andB (allCells x.2.cells) (Nat.beq (lenL x.2.cells) a.2)) (over a.1 x.2.cells l) none = some l' := hf
        cases hb : andB (allCells x.2.cells) (Nat.beq (lenL x.2.cells) a.2) with
        | false => rw [hb] at hf; simp [selB] at hf
        | true =>
          rw [hb] at hf
          have hf : over a.1 x.2.cells l = some l' := hf
          obtain ⟨h4, h5⟩ := andB_iff.1 hb
          rw [beq_iff, lenL_eq] at h5
          obtain ⟨h6, h7⟩ := over_ok hf
          have h2 : VR c x.2 yv := h2
          have hc := h2.cells (allCells_bad h4)
          have hcl := hc.length
          have hll := hl.length
          have hsz : yv.cells.size = a.2 := by rw [← h5, ← hcl]; simp
          have hlt : a.1 + yv.cells.size ≤ cs.size := by
            have : cs.size = l.length := by simpa using hll
            omega
          have hfold := fold_set a.1 yv.cells.toList 0 cs (by simpa using hlt)
          have hz : yv.cells.zipIdx.foldl (fun cs (x : Value × Nat) => cs.setIfInBounds (a.1 + x.2) x.1) cs = (yv.cells.toList.zipIdx 0).foldl (fun (cs : Array Value) (x : Value × Nat) => cs.setIfInBounds (a.1 + x.2) x.1) cs := by
            rw [← Array.foldl_toList, Array.toList_zipIdx]
          rw [← hz] at hfold
          have hl' : VRs c l' (yv.cells.zipIdx.foldl (fun cs (x : Value × Nat) => cs.setIfInBounds (a.1 + x.2) x.1) cs).toList := by
            rw [hfold, h7]
            have : (x.2.cells).length = yv.cells.toList.length := by simpa using hcl.symm
            rw [this]
            exact ((hl.take a.1).append hc).append (hl.drop _)
          obtain ⟨cs', h8, h9, h10⟩ := fill_ok h3 hl' h
          refine ⟨cs', ?_, h9, h10.trans ?_⟩
          · unfold Instr.fill
            rw [hpl]
            have : (decide (yv.cells.size ≠ a.2) || decide (a.1 + yv.cells.size > cs.size)) = false := by simp [hsz]; omega
            simp only [this]
            exact h8
          · have h11 := hl'.length
            rw [Array.length_toList] at h11
            have h12 := congrArg List.length h7
            simp only [List.length_append, List.length_take, List.length_drop] at h12
            have h13 : l.length = cs.size := by simpa using hll.symm
            omega

theorem placesOf_some : ∀ {fs : List Field} {ps : List (Nat × Nat)}, placesOf P fs = some ps → fs.mapM (fun f => (P.info? f.type).map fun i => (f.offset, i.size)) = some ps
  | [], ps, h => by simp [placesOf] at h; subst h; rfl
  | f :: fs, ps, h => by
    unfold placesOf at h
    split at h
    · rename_i n r h1 h2
      simp at h; subst h
      obtain ⟨i, hi, rfl⟩ := Option.map_eq_some_iff.1 h1
      simp [List.mapM_cons, hi, placesOf_some h2]
    · simp at h

theorem ofVal_bad : ∀ (d : Nat) {x : Value}, ofVal d x ≠ some .bad
  | 0, _, h => by simp [ofVal] at h
  | d + 1, x, h => by
    cases x <;> simp only [ofVal] at h <;> try (simp at h; done)
    case int k n => unfold intVal at h; cases hc : (leZ (kMin k) n && leZ n (kMax k)) <;> simp [hc] at h
    case string s => simp [strVal'] at h
    case pointer a => cases a <;> simp [ptrVal] at h
    case slice a n k =>
      unfold sliceVal at h
      split at h <;> simp at h
    case map r => cases r <;> simp [mapVal] at h
    case func fn a b =>
      unfold funcVal at h
      split at h <;> simp at h

theorem zeroOf_bad {t : TypeId} {z : V} (h : zeroOf P t = some z) : z ≠ .bad := by
  unfold zeroOf at h
  split at h
  · split at h
    · rintro rfl; exact ofVal_bad 8 h
    · simp at h
  · simp at h

theorem buildR_ok {t : TypeId} {ps : List (Nat × V)} {parts : Array (Nat × Value)} {v : V} (hp : PartsR c ps parts.toList) (h : (buildR P t ps).gives c.ρ m p v q) :
    q = p ∧ ∃ z, (Instr.build t parts).run P w = .ok z w ∧ VR c v z := by
  unfold buildR at h
  cases hz : zeroOf P t with
  | none => rw [hz] at h; exact (R.gives_fail h).elim
  | some z =>
    rw [hz] at h
    obtain ⟨h1, rfl⟩ := R.gives_opt (show (R.opt "build" ((buildL P t ps z.cells).map .agg)).gives c.ρ m p v q from h)
    obtain ⟨r, h2, rfl⟩ := Option.map_eq_some_iff.1 h1
    obtain ⟨i, zv, hi, hiz, hzr, _⟩ := zeroOf_ok hz
    have hzb := zeroOf_bad hz
    have hcz := (hzr c).cells hzb
    suffices h3 : ∃ cs' : Array Value, P.built t parts.toList = some cs' ∧ VRs c r cs'.toList by
      obtain ⟨cs', h3, h4⟩ := h3
      exact ⟨rfl, .agg cs', run_build w t parts cs' h3, VR.agg.2 ⟨cs', rfl, h4⟩⟩
    unfold buildL at h2
    cases hs : structPlaces P t with
    | some pl =>
      rw [hs] at h2
      have h2 : fillV (fun i => nth i pl) ps z.cells = some r := h2
      unfold structPlaces at hs
      split at hs
      · rename_i fs hfs
        obtain ⟨cs', h4, h5, _⟩ := fill_ok hp hcz h2
        refine ⟨cs', ?_, h5⟩
        have : (fun i => nth i pl) = fun i => pl.toArray[i]? := by funext i; rw [nth_eq]; simp
        rw [this] at h4
        simp [Program.built, hi, hfs, hiz, placesOf_some hs]
        simpa using h4
      · simp at hs
    | none =>
      rw [hs] at h2
      have h2 : buildA P t ps z.cells = some r := h2
      unfold buildA at h2
      cases ha : arrOf P t with
      | none => rw [ha] at h2; simp at h2
      | some a =>
        rw [ha] at h2
        have h2 : fillV (fun i => some (Nat.mul i a.2.2, a.2.2)) ps z.cells = some r := h2
        obtain ⟨hu, hsz⟩ := arrOf_some ha
        obtain ⟨ie, hie, hies⟩ := Option.map_eq_some_iff.1 hsz
        obtain ⟨cs', h4, h5, _⟩ := fill_ok hp hcz h2
        refine ⟨cs', ?_, h5⟩
        have h4 : Instr.fill (fun i => some (i * a.2.2, a.2.2)) zv.cells parts.toList = some cs' := h4
        simp [Program.built, hi, hu, hiz, hie, hies, h4]
end ops

end Go.Sy
