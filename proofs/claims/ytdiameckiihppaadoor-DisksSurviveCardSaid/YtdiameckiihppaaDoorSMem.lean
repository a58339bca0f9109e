/-
  What is proved here: the law's memory: its boxes, its two arrays, the rows of texts, and the disk.
  Conditions: none.
-/
import Derived.Test.YtdiameckiihppaaDoorSPlain
namespace Go.Proofs.YtdiameckiihppaaDoor
open Go.Proofs Go.RowKit

attribute [local go_sem] lt2 lt3 lt4 lt5

theorem info9 : (Tryd.prog.info? 9).map (fun i => (i.zero, i.size, i.bytes)) = some (some (.string ByteArray.empty), 1, 16) := by kernel_rfl

/-- texts -/
def strs (l : List (List Int)) : List Value := l.map fun xs => Value.string (strOfNums xs)
def upd {α : Type} (f : Nat → α) (n : Nat) (x : α) : Nat → α := fun m => if m = n then x else f m

/-- the disk, where others' blocks change and new ones are others' -/
theorem DiskAt.grow {L : Nat → Prop} {d : Nat} {st : St} {w w' : World} (h : DiskAt L d st w) (hs : w.heap.size ≤ w'.heap.size) (hk : ∀ i, i < w.heap.size → ¬ L i → w'.heap[i]? = w.heap[i]?) : DiskAt (Wid L w.heap.size w'.heap.size) d st w' := by
  obtain ⟨v4, v5, v6, mb, A, c, s1, s2, s3, hI⟩ := h
  have hI' := hI.foreign hs hk
  exact ⟨v4, v5, v6, mb, A, c, s1, s2, s3,
    { disk := hI'.disk
      med := hI'.med
      row := hI'.row
      dat := fun e he => ⟨(hI'.dat e he).1, fun a ea hl => hl.elim ((hI.dat e he).2 a ea) (fun hl => by have := (hI.dat e he).1.lt a ea; omega)⟩
      nd := fun hl => hl.elim hI.nd (fun hl => by have := (Array.getElem?_eq_some_iff.1 hI.disk).1; omega)
      nm := fun hl => hl.elim hI.nm (fun hl => by have := hI.med.lt; omega)
      nr := fun a ea hl => hl.elim (hI.nr a ea) (fun hl => by have := hI.row.lt a ea; omega)
      lt := fun i hl => hl.elim (fun hl => Nat.lt_of_lt_of_le (hI.lt i hl) hs) (fun hl => hl.2)
      len := hI'.len }⟩

/-- a slice's numbers -/
abbrev Sl := Option Addr × Nat × Nat
def Sl.v (s : Sl) : Value := .slice s.1 s.2.1 s.2.2

structure MemL (W : World) (L : Nat → Prop) (d k1 cb sa sc : Nat) (B C : Nat) (yC : Array Value) (st : St) (safe : Nat → List Int) (since : Nat → List (List Int)) (w : World) : Prop where
  bel : Below W.heap.size W w
  dk : DiskAt L d st w
  old : ∀ i, i < W.heap.size → L i
  hk1 : w.heap[k1]? = some (.cells yC 27 (0, 0))
  lk1 : L k1
  hcb : w.heap[cb]? = some (.cells (cfgC B C) 32 (0, 0))
  lcb : L cb
  hsa : ∃ SA, w.heap[sa]? = some (.cells SA 45 (0, 0)) ∧ SA.size = 16 ∧ ∀ j, j < 16 → SA[j]? = some (.string (strOfNums (safe j)))
  lsa : L sa ∧ W.heap.size ≤ sa
  hsc : ∃ SC, ∃ r : Nat → Sl, w.heap[sc]? = some (.cells SC 47 (0, 0)) ∧ SC.size = 16 ∧ (∀ j, j < 16 → SC[j]? = some (r j).v ∧ RowAt w 9 (r j).1 (r j).2.1 (r j).2.2 (strs (since j)) ∧ ∀ a, (r j).1 = some a → L a.block ∧ W.heap.size ≤ a.block) ∧
    ∀ i j, i < 16 → j < 16 → i ≠ j → ∀ a b, (r i).1 = some a → (r j).1 = some b → a.block ≠ b.block
  lsc : L sc ∧ W.heap.size ≤ sc

section
variable {W : World} {L : Nat → Prop} {d k1 cb sa sc B C : Nat} {yC : Array Value} {st : St} {safe : Nat → List Int} {since : Nat → List (List Int)} {w w' : World}

theorem RowAt.lt {e : TypeId} {A : Option Addr} {n c : Nat} {xs : List Value} (h : RowAt w e A n c xs) : ∀ a, A = some a → a.block < w.heap.size := by
  intro a e
  obtain ⟨_, _, _, ⟨h4, _⟩ | ⟨b, off, cs, e2, h5, _⟩⟩ := h
  · rw [h4] at e; cases e
  · rw [e2] at e; cases e
    exact (Array.getElem?_eq_some_iff.1 h5).1
theorem RowAt.ne {e : TypeId} {A : Option Addr} {n c : Nat} {xs : List Value} (h : RowAt w e A n c xs) {i : Nat} (hi : ∀ cs, w.heap[i]? ≠ some (.cells cs e (0, 0))) : ∀ a, A = some a → a.block ≠ i := by
  intro a e
  obtain ⟨_, _, _, ⟨h4, _⟩ | ⟨b, off, cs, e2, h5, _⟩⟩ := h
  · rw [h4] at e; cases e
  · rw [e2] at e; cases e
    rintro rfl
    exact hi _ h5

/-- a call of the disk's -/
theorem MemL.call (h : MemL W L d k1 cb sa sc B C yC st safe since w) {st' : St} (hk : Kp L w w') (hd : DiskAt L d st' w') : MemL W L d k1 cb sa sc B C yC st' safe since w' where
  bel := ⟨hk.os.trans h.bel.os, hk.tape.trans h.bel.tape, hk.output.trans h.bel.output, Nat.le_trans h.bel.size hk.size, fun i hi => (hk.block i (Nat.lt_of_lt_of_le hi h.bel.size) (h.old i hi)).trans (h.bel.block i hi)⟩
  dk := hd
  old := h.old
  hk1 := (hk.block _ (Array.getElem?_eq_some_iff.1 h.hk1).1 h.lk1).trans h.hk1
  lk1 := h.lk1
  hcb := (hk.block _ (Array.getElem?_eq_some_iff.1 h.hcb).1 h.lcb).trans h.hcb
  lcb := h.lcb
  hsa := by
    obtain ⟨SA, h1, h2⟩ := h.hsa
    exact ⟨SA, (hk.block _ (Array.getElem?_eq_some_iff.1 h1).1 h.lsa.1).trans h1, h2⟩
  lsa := h.lsa
  hsc := by
    obtain ⟨SC, r, h1, h2, h3, h4⟩ := h.hsc
    exact ⟨SC, r, (hk.block _ (Array.getElem?_eq_some_iff.1 h1).1 h.lsc.1).trans h1, h2, fun j hj => ⟨(h3 j hj).1, (h3 j hj).2.1.keep fun a ea => hk.block _ ((h3 j hj).2.1.lt a ea) ((h3 j hj).2.2 a ea).1, (h3 j hj).2.2⟩, h4⟩
  lsc := h.lsc

/-- more blocks are others' -/
theorem MemL.mono {L' : Nat → Prop} (h : MemL W L d k1 cb sa sc B C yC st safe since w) (hL : ∀ i, L i → L' i) (hd : DiskAt L' d st w) : MemL W L' d k1 cb sa sc B C yC st safe since w where
  bel := h.bel
  dk := hd
  old := fun i hi => hL i (h.old i hi)
  hk1 := h.hk1
  lk1 := hL _ h.lk1
  hcb := h.hcb
  lcb := hL _ h.lcb
  hsa := h.hsa
  lsa := ⟨hL _ h.lsa.1, h.lsa.2⟩
  hsc := by
    obtain ⟨SC, r, h1, h2, h3, h4⟩ := h.hsc
    exact ⟨SC, r, h1, h2, fun j hj => ⟨(h3 j hj).1, (h3 j hj).2.1, fun a ea => ⟨hL _ ((h3 j hj).2.2 a ea).1, ((h3 j hj).2.2 a ea).2⟩⟩, h4⟩
  lsc := ⟨hL _ h.lsc.1, h.lsc.2⟩

/-- new blocks, which are others' -/
theorem MemL.below (h : MemL W L d k1 cb sa sc B C yC st safe since w) (hb : Below w.heap.size w w') : MemL W (Wid L w.heap.size w'.heap.size) d k1 cb sa sc B C yC st safe since w' :=
  (h.call (Kp.below hb) (h.dk.below hb)).mono (fun _ hi => .inl hi) (h.dk.widen hb)
theorem MemL.drewN (h : MemL W L d k1 cb sa sc B C yC st safe since w) (q : Nat) : MemL W L d k1 cb sa sc B C yC st safe since (w.drewN q) := h.call ⟨rfl, rfl, rfl, Nat.le_refl _, fun _ _ _ => rfl⟩ (h.dk.drewN q)

theorem sa_ne {t u : TypeId} {i j : Nat} {cs cs' : Array Value} (h1 : w.heap[i]? = some (.cells cs t (0, 0))) (h2 : w.heap[j]? = some (.cells cs' u (0, 0))) (hne : t ≠ u) : i ≠ j := by
  rintro rfl
  rw [h1] at h2
  injection h2 with h2
  injection h2 with _ h2
  exact hne h2

theorem MemL.ext {safe' : Nat → List Int} (h : MemL W L d k1 cb sa sc B C yC st safe since w) (he : ∀ j, j < 16 → safe j = safe' j) : MemL W L d k1 cb sa sc B C yC st safe' since w := by
  obtain ⟨SA, h1, h2, h3⟩ := h.hsa
  exact ⟨h.bel, h.dk, h.old, h.hk1, h.lk1, h.hcb, h.lcb, ⟨SA, h1, h2, fun j hj => by rw [← he j hj]; exact h3 j hj⟩, h.lsa, h.hsc, h.lsc⟩
theorem MemL.ext2 {since' : Nat → List (List Int)} (h : MemL W L d k1 cb sa sc B C yC st safe since w) (he : ∀ j, j < 16 → since j = since' j) : MemL W L d k1 cb sa sc B C yC st safe since' w := by
  obtain ⟨SC, r, h1, h2, h3, h4⟩ := h.hsc
  exact ⟨h.bel, h.dk, h.old, h.hk1, h.lk1, h.hcb, h.lcb, h.hsa, h.lsa, ⟨SC, r, h1, h2, (fun j hj => by rw [← he j hj]; exact h3 j hj), h4⟩, h.lsc⟩

/-- a text is stored -/
theorem MemL.setSafe (h : MemL W L d k1 cb sa sc B C yC st safe since w) {n : Nat} (hn : n < 16) (xs : List Int) : MemL W L d k1 cb sa sc B C yC st (upd safe n xs) since (w.setCell ⟨sa, n, none⟩ (.string (strOfNums xs))) := by
  have hW := (Wrote.refl sa w).setCell n (.string (strOfNums xs))
  obtain ⟨SA, h1, h2, h3⟩ := h.hsa
  obtain ⟨SC, r, g1, g2, g3, g4⟩ := h.hsc
  have n1 := sa_ne h.hk1 h1 (by decide)
  have n2 := sa_ne h.hcb h1 (by decide)
  have n3 := sa_ne g1 h1 (by decide)
  exact
    { bel := h.bel.trans (hW.below h.lsa.2)
      dk := h.dk.wrote hW h.lsa.1
      old := h.old
      hk1 := (hW.other _ n1).trans h.hk1
      lk1 := h.lk1
      hcb := (hW.other _ n2).trans h.hcb
      lcb := h.lcb
      hsa := ⟨_, setCell_heap h1 n _, by simpa using h2, fun j hj => by
        unfold upd
        by_cases e : j = n
        · subst e
          rw [if_pos rfl, Array.getElem?_setIfInBounds_self_of_lt (by omega)]
        · rw [if_neg e, Array.getElem?_setIfInBounds_ne (Ne.symm e)]
          exact h3 j hj⟩
      lsa := h.lsa
      hsc := ⟨SC, r, (hW.other _ n3).trans g1, g2, fun j hj => ⟨(g3 j hj).1, (g3 j hj).2.1.keep fun a ea => hW.other _ ((g3 j hj).2.1.ne (fun cs hc => by rw [h1] at hc; simp at hc) a ea), (g3 j hj).2.2⟩, g4⟩
      lsc := h.lsc }

/-- a row is forgotten -/
theorem MemL.clr (h : MemL W L d k1 cb sa sc B C yC st safe since w) {n : Nat} (hn : n < 16) : MemL W L d k1 cb sa sc B C yC st safe (upd since n []) (w.setCell ⟨sc, n, none⟩ (.slice none 0 0)) := by
  have hW := (Wrote.refl sc w).setCell n (.slice none 0 0)
  obtain ⟨SA, h1, h2, h3⟩ := h.hsa
  obtain ⟨SC, r, g1, g2, g3, g4⟩ := h.hsc
  have n1 := sa_ne h.hk1 g1 (by decide)
  have n2 := sa_ne h.hcb g1 (by decide)
  have n3 := sa_ne h1 g1 (by decide)
  exact
    { bel := h.bel.trans (hW.below h.lsc.2)
      dk := h.dk.wrote hW h.lsc.1
      old := h.old
      hk1 := (hW.other _ n1).trans h.hk1
      lk1 := h.lk1
      hcb := (hW.other _ n2).trans h.hcb
      lcb := h.lcb
      hsa := ⟨SA, (hW.other _ n3).trans h1, h2, h3⟩
      lsa := h.lsa
      hsc := ⟨_, upd r n (none, 0, 0), setCell_heap g1 n _, by simpa using g2, fun j hj => by
        unfold upd
        by_cases e : j = n
        · subst e
          simp only [if_pos]
          rw [Array.getElem?_setIfInBounds_self_of_lt (by omega)]
          exact ⟨rfl, RowAt.nil _ _, fun a ea => by cases ea⟩
        · simp only [if_neg e]
          rw [Array.getElem?_setIfInBounds_ne (Ne.symm e)]
          exact ⟨(g3 j hj).1, (g3 j hj).2.1.keep fun a ea => hW.other _ ((g3 j hj).2.1.ne (fun cs hc => by rw [g1] at hc; simp at hc) a ea), (g3 j hj).2.2⟩, fun i j hi hj hne a b ea eb => by
        unfold upd at ea eb
        by_cases e1 : i = n
        · rw [if_pos e1] at ea; cases ea
        · by_cases e2 : j = n
          · rw [if_pos e2] at eb; cases eb
          · rw [if_neg e1] at ea
            rw [if_neg e2] at eb
            exact g4 i j hi hj hne a b ea eb⟩
      lsc := h.lsc }

/-- a text is appended -/
theorem MemL.app (h : MemL W L d k1 cb sa sc B C yC st safe since w) {n : Nat} (hn : n < 16) (xs : List Int) (hl : (since n).length ≤ 60) :
    ∃ A m c A' c' w3, w.cell? ⟨sc, n, none⟩ = some (.slice A m c) ∧ (w.alloc (.cells #[.string (strOfNums xs)] 9 (0, 0))).cell? ⟨sc, n, none⟩ = some (.slice A m c) ∧
      (Builtin.append_ #[46, 46] 46 #[.slice A m c, .slice (some ⟨w.heap.size, 0, none⟩) 1 1]).run Tryd.prog (w.alloc (.cells #[.string (strOfNums xs)] 9 (0, 0))).drew = .ok (.slice A' (m + 1) c') w3 ∧
      w3.cell? ⟨sc, n, none⟩ = some (.slice A m c) ∧ w3.frozen? ⟨sc, n, none⟩ = false ∧
      ∃ L', MemL W L' d k1 cb sa sc B C yC st safe (upd since n (since n ++ [xs])) (w3.setCell ⟨sc, n, none⟩ (.slice A' (m + 1) c')) := by
  obtain ⟨o, ho⟩ : ∃ o, Obj.cells #[.string (strOfNums xs)] 9 (0, 0) = o := ⟨_, rfl⟩
  rw [ho]
  have hbo : Below w.heap.size w (w.alloc o) := (Below.refl _ _).alloc (Nat.le_refl _) _
  have hoo : (w.alloc o).heap[w.heap.size]? = some (.cells #[.string (strOfNums xs)] 9 (0, 0)) := by rw [← ho]; exact heap_alloc_new _ _
  obtain ⟨SA, h1, h2, h3⟩ := h.hsa
  obtain ⟨SC, r, g1, g2, g3, g4⟩ := h.hsc
  obtain ⟨q1, q2, q3⟩ := g3 n hn
  have g1o : (w.alloc o).heap[sc]? = _ := (hbo.block _ (Array.getElem?_eq_some_iff.1 g1).1).trans g1
  have q2o : RowAt (w.alloc o).drew 9 (r n).1 (r n).2.1 (r n).2.2 (strs (since n)) := q2.keep fun a ea => hbo.block _ (q2.lt a ea)
  obtain ⟨i0, hi, hz0, hz1, hz2⟩ := info_parts info9
  have hm : (r n).2.1 = (since n).length := by have := q2.1; simpa [strs] using this.symm
  obtain ⟨A', c', w3, hrun, hR3, hef⟩ := q2o.append (P := Tryd.prog) (t := 46) Tryd.underlying46 hi hz0 hz1 hz2 rfl ⟨w.heap.size, 0, none⟩ 1 1 [.string (strOfNums xs)] rfl (fun j u hj => by
    match j, hj with
    | 0, hj => rw [add_zero_]; exact (cell_of hoo 0).trans hj
    | j + 1, hj => simp at hj) (fun u hu => by obtain rfl := List.mem_singleton.1 hu; rfl) (by unfold maxLen; omega) (by omega)
  have hne : ∀ a, (r n).1 = some a → a.block ≠ sc := q2.ne fun cs hc => by rw [g1] at hc; simp at hc
  have g13 : w3.heap[sc]? = some (.cells SC 47 (0, 0)) := hef.heap (w := (w.alloc o).drew) g1o hne
  refine ⟨(r n).1, (r n).2.1, (r n).2.2, A', c', w3, (cell_of g1 n).trans q1, (cell_of g1o n).trans q1, hrun, (cell_of g13 n).trans q1, frozen_of g13 n, ?_⟩
  have hsz3 : (w.alloc o).heap.size ≤ w3.heap.size := hef.size (w := (w.alloc o).drew)
  have hW := (Wrote.refl sc w3).setCell n (.slice A' ((r n).2.1 + 1) c')
  obtain ⟨w4, hw4⟩ : ∃ w4, w3.setCell ⟨sc, n, none⟩ (.slice A' ((r n).2.1 + 1) c') = w4 := ⟨_, rfl⟩
  rw [hw4] at hW ⊢
  have hs4 : (w.alloc o).heap.size ≤ w4.heap.size := by have := hW.size; omega
  have hs : w.heap.size ≤ w4.heap.size := Nat.le_trans hbo.size hs4
  have hoth : ∀ i, i < w.heap.size → i ≠ sc → (∀ a, (r n).1 = some a → a.block ≠ i) → w4.heap[i]? = w.heap[i]? := fun i hi hi1 hi2 =>
    (hW.other i hi1).trans ((hef.other (w := (w.alloc o).drew) (Nat.lt_of_lt_of_le hi hbo.size) hi2).trans (hbo.block i hi))
  have hnew : ∀ a, A' = some a → A' = (r n).1 ∨ (w.alloc o).heap.size ≤ a.block := fun a ea => by
    rcases hef with ⟨h, _⟩ | ⟨_, h⟩
    · exact .inl h
    · exact .inr (h a ea)
  have hA'l : ∀ a, A' = some a → a.block < w4.heap.size := fun a ea => by have := hR3.lt a ea; have := hW.size; omega
  have hA'sc : ∀ a, A' = some a → a.block ≠ sc := fun a ea => by
    rcases hnew a ea with e | e
    · exact hne a (e ▸ ea)
    · have := (Array.getElem?_eq_some_iff.1 g1o).1; omega
  have n1 := sa_ne h.hk1 g1 (by decide)
  have n2 := sa_ne h.hcb g1 (by decide)
  have n3 := sa_ne h1 g1 (by decide)
  have r1 : ∀ a, (r n).1 = some a → a.block ≠ k1 := q2.ne fun cs hc => by rw [h.hk1] at hc; simp at hc
  have r2 : ∀ a, (r n).1 = some a → a.block ≠ cb := q2.ne fun cs hc => by rw [h.hcb] at hc; simp at hc
  have r3 : ∀ a, (r n).1 = some a → a.block ≠ sa := q2.ne fun cs hc => by rw [h1] at hc; simp at hc
  have hext := hef.ext (w := (w.alloc o).drew)
  exact ⟨Wid L w.heap.size w4.heap.size,
    { bel := ⟨hW.os.trans (hext.1.trans h.bel.os), hW.tape.trans (hext.2.1.trans h.bel.tape), hW.output.trans (hext.2.2.trans h.bel.output), Nat.le_trans h.bel.size hs, fun i hi => (hoth i (Nat.lt_of_lt_of_le hi h.bel.size) (fun e => by have := h.lsc.2; omega) (fun a ea e => by have := (q3 a ea).2; omega)).trans (h.bel.block i hi)⟩
      dk := h.dk.grow hs fun i hi hl => hoth i hi (fun e => hl (e ▸ h.lsc.1)) (fun a ea e => hl (e ▸ (q3 a ea).1))
      old := fun i hi => .inl (h.old i hi)
      hk1 := (hoth _ (Array.getElem?_eq_some_iff.1 h.hk1).1 n1 r1).trans h.hk1
      lk1 := .inl h.lk1
      hcb := (hoth _ (Array.getElem?_eq_some_iff.1 h.hcb).1 n2 r2).trans h.hcb
      lcb := .inl h.lcb
      hsa := ⟨SA, (hoth _ (Array.getElem?_eq_some_iff.1 h1).1 n3 r3).trans h1, h2, h3⟩
      lsa := ⟨.inl h.lsa.1, h.lsa.2⟩
      hsc := ⟨SC.setIfInBounds n (.slice A' ((r n).2.1 + 1) c'), upd r n (A', (r n).2.1 + 1, c'), by rw [← hw4]; exact setCell_heap g13 n _, by simpa using g2, fun j hj => by
        unfold upd
        by_cases e : j = n
        · subst e
          simp only [if_pos]
          rw [Array.getElem?_setIfInBounds_self_of_lt (by omega)]
          refine ⟨rfl, ?_, fun a ea => ⟨?_, ?_⟩⟩
          · have e1 : strs (since j ++ [xs]) = strs (since j) ++ [.string (strOfNums xs)] := by simp [strs]
            rw [e1]
            exact hR3.keep fun a ea => hW.other _ (hA'sc a ea)
          · rcases hnew a ea with e | e
            · exact .inl (q3 a (e ▸ ea)).1
            · exact .inr ⟨by have := hbo.size; omega, hA'l a ea⟩
          · rcases hnew a ea with e | e
            · exact (q3 a (e ▸ ea)).2
            · have := h.bel.size; have := hbo.size; omega
        · simp only [if_neg e]
          rw [Array.getElem?_setIfInBounds_ne (Ne.symm e)]
          obtain ⟨p1, p2, p3⟩ := g3 j hj
          refine ⟨p1, p2.keep fun a ea => hoth _ (p2.lt a ea) (p2.ne (fun cs hc => by rw [g1] at hc; simp at hc) a ea) (fun b eb e2 => g4 n j hn hj (Ne.symm e) b a eb ea e2), fun a ea => ⟨.inl (p3 a ea).1, (p3 a ea).2⟩⟩, fun i j hi hj hij a b ea eb => by
        unfold upd at ea eb
        have key : ∀ k, k < 16 → k ≠ n → ∀ a b, A' = some a → (r k).1 = some b → a.block ≠ b.block := fun k hk hkn a b ea eb => by
          rcases hnew a ea with e | e
          · exact g4 n k hn hk (Ne.symm hkn) a b (e ▸ ea) eb
          · have := ((g3 k hk).2.1.lt b eb); have := hbo.size; omega
        by_cases e1 : i = n
        · rw [if_pos e1] at ea
          rw [if_neg (fun e2 => hij (e1.trans e2.symm))] at eb
          exact key j hj (fun e2 => hij (e1.trans e2.symm)) a b ea eb
        · rw [if_neg e1] at ea
          by_cases e2 : j = n
          · rw [if_pos e2] at eb
            exact (key i hi e1 b a eb ea).symm
          · rw [if_neg e2] at eb
            exact g4 i j hi hj hij a b ea eb⟩
      lsc := ⟨.inl h.lsc.1, h.lsc.2⟩ }⟩
/-- the arrays at the beginning -/
def str16 : Array Value := #[.string ⟨#[]⟩, .string ⟨#[]⟩, .string ⟨#[]⟩, .string ⟨#[]⟩, .string ⟨#[]⟩, .string ⟨#[]⟩, .string ⟨#[]⟩, .string ⟨#[]⟩, .string ⟨#[]⟩, .string ⟨#[]⟩, .string ⟨#[]⟩, .string ⟨#[]⟩, .string ⟨#[]⟩, .string ⟨#[]⟩, .string ⟨#[]⟩, .string ⟨#[]⟩]
def sl16 : Array Value := #[.slice none 0 0, .slice none 0 0, .slice none 0 0, .slice none 0 0, .slice none 0 0, .slice none 0 0, .slice none 0 0, .slice none 0 0, .slice none 0 0, .slice none 0 0, .slice none 0 0, .slice none 0 0, .slice none 0 0, .slice none 0 0, .slice none 0 0, .slice none 0 0]
theorem str16_at : ∀ j, j < 16 → str16[j]? = some (.string (strOfNums [])) := by
  intro j hj
  obtain rfl | rfl | rfl | rfl | rfl | rfl | rfl | rfl | rfl | rfl | rfl | rfl | rfl | rfl | rfl | rfl : j = 0 ∨ j = 1 ∨ j = 2 ∨ j = 3 ∨ j = 4 ∨ j = 5 ∨ j = 6 ∨ j = 7 ∨ j = 8 ∨ j = 9 ∨ j = 10 ∨ j = 11 ∨ j = 12 ∨ j = 13 ∨ j = 14 ∨ j = 15 := by omega
  all_goals rfl
theorem sl16_at : ∀ j, j < 16 → sl16[j]? = some (.slice none 0 0) := by
  intro j hj
  obtain rfl | rfl | rfl | rfl | rfl | rfl | rfl | rfl | rfl | rfl | rfl | rfl | rfl | rfl | rfl | rfl : j = 0 ∨ j = 1 ∨ j = 2 ∨ j = 3 ∨ j = 4 ∨ j = 5 ∨ j = 6 ∨ j = 7 ∨ j = 8 ∨ j = 9 ∨ j = 10 ∨ j = 11 ∨ j = 12 ∨ j = 13 ∨ j = 14 ∨ j = 15 := by omega
  all_goals rfl

theorem mem_start {w6 : World} (hd : DiskAt L d st w6) (hb : Below W.heap.size W w6) (ho : ∀ i, i < W.heap.size → L i) (hk1 : w6.heap[k1]? = some (.cells yC 27 (0, 0))) (lk1 : L k1) (hcb : w6.heap[cb]? = some (.cells (cfgC B C) 32 (0, 0))) (lcb : L cb) :
    ∃ L', MemL W L' d k1 cb w6.heap.size (w6.heap.size + 1) B C yC st (fun _ => []) (fun _ => []) ((w6.alloc (.cells str16 45 (0, 0))).alloc (.cells sl16 47 (0, 0))) := by
  have h8 : Below w6.heap.size w6 ((w6.alloc (.cells str16 45 (0, 0))).alloc (.cells sl16 47 (0, 0))) := ((Below.refl w6.heap.size w6).alloc (Nat.le_refl _) _).alloc (by simp) _
  have a0 := alloc2_0 w6 (.cells str16 45 (0, 0)) (.cells sl16 47 (0, 0))
  have a1 := alloc2_1 w6 (.cells str16 45 (0, 0)) (.cells sl16 47 (0, 0))
  have hs := (Array.getElem?_eq_some_iff.1 a1).1
  generalize ((w6.alloc (.cells str16 45 (0, 0))).alloc (.cells sl16 47 (0, 0))) = w8 at *
  exact ⟨Wid L w6.heap.size w8.heap.size,
    { bel := hb.trans (h8.mono hb.size)
      dk := hd.widen h8
      old := fun i hi => .inl (ho i hi)
      hk1 := (h8.block _ (Array.getElem?_eq_some_iff.1 hk1).1).trans hk1
      lk1 := .inl lk1
      hcb := (h8.block _ (Array.getElem?_eq_some_iff.1 hcb).1).trans hcb
      lcb := .inl lcb
      hsa := ⟨str16, a0, rfl, str16_at⟩
      lsa := ⟨.inr ⟨Nat.le_refl _, by omega⟩, hb.size⟩
      hsc := ⟨sl16, fun _ => (none, 0, 0), a1, rfl, (fun j hj => ⟨sl16_at j hj, RowAt.nil _ _, (fun a ea => by cases ea)⟩), (fun i j _ _ _ a b ea => by cases ea)⟩
      lsc := ⟨.inr ⟨by omega, hs⟩, by have := hb.size; omega⟩ }⟩
end
end Go.Proofs.YtdiameckiihppaaDoor
