/-
  What is proved here: arguments that are slices of integers, bools, and structs of these, as symbolic rows.
  Conditions: none.
-/
import Derived.Test.YtcipfcbaclfnhaaSyNorm
namespace Go.Sy
open Go.ChangeShapes Go.WideShapes Go.ChangeAt Go.RowKit

/-- a cell of a parameter: a number or a bool, or a slice -/
inductive Mx where
  | leaf (l : Lf)
  | sl (ls : List Lf)

/-- a parameter -/
inductive Pa where
  | leaf (l : Lf)
  | agg (ls : List Lf)
  | arr (ls : List Lf)
  | mix (ms : List Mx)

def mixFs (mx : TypeId → Option (List Mx)) (P : Program) : List Field → Nat → Nat → Option (List Mx)
  | [], off, n => if off = n then some [] else none
  | f :: fs, off, n => if f.offset = off then (mx f.type).bind fun l => if l.length = P.cellsOf f.type then (mixFs mx P fs (off + l.length) n).map (l ++ ·) else none else none

/-- a type's cells -/
def mixT (P : Program) : Nat → TypeId → Option (List Mx)
  | 0, _ => none
  | d + 1, t =>
    match P.underlying t with
    | some (.int k) => some [.leaf (.int k)]
    | some .bool => some [.leaf .bool]
    | some (.slice e) => (flatT P 8 e).bind fun ls => if ls.length = P.cellsOf e ∧ 0 < ls.length ∧ ls.length < 64 then some [.sl ls] else none
    | some (.struct fs) => mixFs (mixT P d) P fs.toList 0 (P.cellsOf t)
    | some (.array _ _) => (flatT P 8 t).map (·.map .leaf)
    | _ => none

def paOf (P : Program) (t : TypeId) : Option Pa :=
  match P.underlying t with
  | some (.struct _) => match flatT P 8 t with
    | some ls => some (.agg ls)
    | none => (mixT P 8 t).map .mix
  | some (.array _ _) => (flatT P 8 t).map .agg
  | some (.int k) => some (.leaf (.int k))
  | some .bool => some (.leaf .bool)
  | some (.slice e) => (flatT P 8 e).bind fun ls => if ls.length = P.cellsOf e ∧ 0 < ls.length ∧ ls.length < 64 then some (.arr ls) else none
  | _ => none

def mxV : List Mx → Nat → Nat → List V
  | [], _, _ => []
  | .leaf l :: r, i, a => l.v i :: mxV r (i + 1) a
  | .sl ls :: r, i, a => .sarr (4096 + a) ls.length (.x i) :: mxV r (i + 1) (a + 1)

def mxB : List Mx → Nat → Nat → List (Nat × Blk)
  | [], _, _ => []
  | .leaf _ :: r, i, a => mxB r (i + 1) a
  | .sl ls :: r, i, a => (4096 + a, .srow a ls (.x i)) :: mxB r (i + 1) (a + 1)

noncomputable def mxR : List Mx → List (Int × Int)
  | [] => []
  | .leaf l :: r => l.rng :: mxR r
  | .sl _ :: r => (0, 9223372036854775807) :: mxR r

def mxRows : List Mx → Nat
  | [] => 0
  | .leaf _ :: r => mxRows r
  | .sl _ :: r => mxRows r + 1

/-- the parameters' values: from variable i and row a on -/
def paV : List Pa → Nat → Nat → List V
  | [], _, _ => []
  | .leaf l :: r, i, a => l.v i :: paV r (i + 1) a
  | .agg ls :: r, i, a => .agg (cellsV ls i) :: paV r (i + ls.length) a
  | .arr ls :: r, i, a => .sarr (4096 + a) ls.length (.x i) :: paV r (i + 1) (a + 1)
  | .mix ms :: r, i, a => .agg (mxV ms i a) :: paV r (i + ms.length) (a + mxRows ms)

/-- the rows -/
def paB : List Pa → Nat → Nat → List (Nat × Blk)
  | [], _, _ => []
  | .leaf _ :: r, i, a => paB r (i + 1) a
  | .agg ls :: r, i, a => paB r (i + ls.length) a
  | .arr ls :: r, i, a => (4096 + a, .srow a ls (.x i)) :: paB r (i + 1) (a + 1)
  | .mix ms :: r, i, a => mxB ms i a ++ paB r (i + ms.length) (a + mxRows ms)

noncomputable def paR : List Pa → List (Int × Int)
  | [] => []
  | .leaf l :: r => l.rng :: paR r
  | .agg ls :: r => ls.map Lf.rng ++ paR r
  | .arr _ :: r => (0, 9223372036854775807) :: paR r
  | .mix ms :: r => mxR ms ++ paR r

def paRows : List Pa → Nat
  | [] => 0
  | .arr _ :: r => paRows r + 1
  | .mix ms :: r => mxRows ms + paRows r
  | .leaf _ :: r => paRows r
  | .agg _ :: r => paRows r

/-- what is found for a row: its place, and its numbers -/
structure Rw where
  b : Nat
  o : Nat
  z : Nat → Nat → Int

instance : Inhabited Rw := ⟨⟨0, 0, fun _ _ => 0⟩⟩

/-- the names stand for what was found, from variable i and row a on -/
def Found (c : Cx) (i a : Nat) (vals : List Int) (rows : List Rw) : Prop :=
  (∀ j, j < vals.length → c.ρ (i + j) = vals.getD j 0) ∧
  ∀ j, j < rows.length → 4096 + (a + j) < c.nb ∧ c.β (4096 + (a + j)) = ((rows.getD j default).b, (rows.getD j default).o) ∧ ∀ r q, r < 64 → c.ρ (rowVar (a + j) r q) = (rows.getD j default).z r q

section
variable {H : Type} {enc : TypeId × Value → H} {P : Program} {W : World} {base : Nat} {sp : Nat → Bool} {held : Bool}

theorem add_none {b o n : Nat} : (⟨b, o, none⟩ : Addr).add n = ⟨b, o + n, none⟩ := by
  unfold Addr.add
  split
  · rename_i h; subst h; rfl
  · simp

theorem mapM_get {α β : Type} {f : α → Option β} : ∀ {l : List α} {ys : List β}, l.mapM f = some ys → ∀ (i : Nat) (x : α), l[i]? = some x → ∃ y, f x = some y ∧ ys[i]? = some y
  | a :: l, ys, h, i, x, hx => by
    rw [List.mapM_cons] at h
    cases h1 : f a with
    | none => simp [h1] at h
    | some y =>
      rw [h1] at h
      cases h2 : l.mapM f with
      | none => simp [h2] at h
      | some ys' =>
        rw [h2] at h
        have h : some (y :: ys') = some ys := h
        simp at h; subst h
        cases i with
        | zero => simp at hx; subst hx; exact ⟨y, h1, rfl⟩
        | succ i => obtain ⟨z, g1, g2⟩ := mapM_get h2 i x (by simpa using hx); exact ⟨z, g1, by simpa using g2⟩

theorem LfsR.get : ∀ {ls : List Lf} {vs : List Value} {r : Nat} {l : Lf}, LfsR ls vs → ls[r]? = some l → ∃ v, vs[r]? = some v ∧ l.R v
  | m :: ls, vs, 0, l, h, hl => by
    obtain ⟨v, t, rfl, h1, _⟩ := h
    simp at hl; subst hl
    exact ⟨v, rfl, h1⟩
  | m :: ls, vs, r + 1, l, h, hl => by
    obtain ⟨v, t, rfl, _, h2⟩ := h
    obtain ⟨x, g1, g2⟩ := LfsR.get h2 (r := r) (by simpa using hl)
    exact ⟨x, by simpa using g1, g2⟩

theorem Lf.is_of {l : Lf} {v : Value} (h : l.R v) : l.Is (valOf v) v := by
  cases l with
  | int k =>
    obtain ⟨n, rfl, hw⟩ := h
    exact ⟨rfl, (wf_rng hw).1, (wf_rng hw).2⟩
  | bool =>
    obtain ⟨b, rfl⟩ := h
    cases b <;> exact ⟨rfl, by decide, by decide⟩

/-- a slice's elements -/
theorem slice_open {t e : TypeId} {fuel : Nat} {v : Value} {x : DataW H × List MemPlace} {ls : List Lf} (ht : P.underlying t = some (.slice e)) (hls : flatT P 8 e = some ls) (hlen : ls.length = P.cellsOf e) (hpos : 0 < ls.length)
    (h : DataW.trod enc P W base sp held fuel t [v] = some x) :
    ∃ (n cap : Nat) (rw : Rw), n ≤ 9223372036854775807 ∧ ((0 < n ∧ v = .slice (some ⟨rw.b, rw.o, none⟩) n cap) ∨ (n = 0 ∧ ∃ a, v = .slice a 0 cap)) ∧
      (0 < n → ∃ cs ty fr, W.heap[rw.b]? = some (.cells cs ty fr) ∧ ∀ (q r : Nat) (l : Lf), q < n → ls[r]? = some l → ∃ y, cs[rw.o + (q * ls.length + r)]? = some y ∧ l.Is (rw.z r q) y) := by
  rcases DataW.trod_slice ht h with ⟨h0, _⟩ | ⟨a, len, cap, elems, rest, n, _, h0, _, _, hl, hm, hel, hat, _⟩
  · simp at h0
    exact ⟨0, 0, default, by omega, .inr ⟨rfl, none, h0⟩, fun h => by omega⟩
  · simp at h0
    by_cases hn : len = 0
    · subst hn
      exact ⟨0, cap, default, by omega, .inr ⟨rfl, some a, h0⟩, fun h => by omega⟩
    · -- each element's cells
      have hcell : ∀ q, q < len → ∃ cs', LfsR ls cs' ∧ ∀ r y, cs'[r]? = some y → W.cell? ((a.add (q * P.cellsOf e)).add r) = some y := by
        intro q hq
        have hk := hat q hq
        rw [List.getElem?_eq_getElem (by omega)] at hk
        obtain ⟨cs', h1, h2⟩ := Option.bind_eq_some_iff.1 hk
        refine ⟨cs', (flatT_ok 8 n e ls cs' _ hls h2).1, fun r y hy => ?_⟩
        unfold World.cells? at h1
        split at h1
        · have hr : r < cs'.length := (List.getElem?_eq_some_iff.1 hy).1
          have hlc : cs'.length = P.cellsOf e := by
            rw [(flatT_ok 8 n e ls cs' _ hls h2).1.length, hlen]
          obtain ⟨z, g1, g2⟩ := mapM_get h1 r r (by rw [List.getElem?_range (by omega)])
          rw [hy] at g2
          simp at g2; subst g2
          exact g1
        · simp at h1
      -- the address
      obtain ⟨cs0, hR0, hc0⟩ := hcell 0 (by omega)
      obtain ⟨l0, hl0⟩ : ∃ l, ls[0]? = some l := ⟨ls[0], List.getElem?_eq_getElem hpos⟩
      obtain ⟨y0, hy0, _⟩ := hR0.get hl0
      have ha0 := hc0 0 y0 hy0
      have hspot : a.spot = none := by
        simp only [Nat.zero_mul] at ha0
        have e0 : (a.add 0).add 0 = a := by simp [Addr.add]
        rw [e0] at ha0
        unfold World.cell? at ha0
        split at ha0
        · split at ha0
          · simp at ha0
          · rename_i hs; cases hsp : a.spot <;> simp_all
        · simp at ha0
      have ha : a = ⟨a.block, a.off, none⟩ := by cases a; simp at hspot; simp [hspot]
      have hblk : ∃ cs ty fr, W.heap[a.block]? = some (.cells cs ty fr) := by
        have e0 : (a.add 0).add 0 = a := by simp [Addr.add]
        simp only [Nat.zero_mul] at ha0
        rw [e0] at ha0
        unfold World.cell? at ha0
        split at ha0
        · rename_i c t f hh; exact ⟨_, _, _, hh⟩
        · simp at ha0
      obtain ⟨cs, ty, fr, hb⟩ := hblk
      refine ⟨len, cap, ⟨a.block, a.off, fun r q => valOf (cs.getD (a.off + (q * ls.length + r)) undef)⟩, by unfold maxLen at hm; omega, .inl ⟨by omega, by rw [h0, ← ha]⟩, fun _ => ⟨cs, ty, fr, hb, fun q r l hq hl => ?_⟩⟩
      obtain ⟨cs', hR, hc⟩ := hcell q hq
      obtain ⟨y, hy, hyR⟩ := hR.get hl
      have h5 := hc r y hy
      rw [ha, add_none, add_none, ← hlen] at h5
      have h6 : cs[a.off + (q * ls.length + r)]? = some y := by
        unfold World.cell? at h5
        simp only [hb] at h5
        rw [← Nat.add_assoc]; simpa using h5
      refine ⟨y, h6, ?_⟩
      have h7 : cs.getD (a.off + (q * ls.length + r)) undef = y := by
        rw [Array.getD_eq_getD_getElem?, h6]; rfl
      show l.Is (valOf (cs.getD (a.off + (q * ls.length + r)) undef)) y
      rw [h7]
      exact Lf.is_of hyR

/-- what a slice's cell is -/
def SlR (W : World) (ls : List Lf) (v : Value) : Prop :=
  0 < ls.length ∧ ls.length < 64 ∧ ∃ (n cap : Nat) (rw : Rw), n ≤ 9223372036854775807 ∧ ((0 < n ∧ v = .slice (some ⟨rw.b, rw.o, none⟩) n cap) ∨ (n = 0 ∧ ∃ a, v = .slice a 0 cap)) ∧
    (0 < n → ∃ cs ty fr, W.heap[rw.b]? = some (.cells cs ty fr) ∧ ∀ (q r : Nat) (l : Lf), q < n → ls[r]? = some l → ∃ y, cs[rw.o + (q * ls.length + r)]? = some y ∧ l.Is (rw.z r q) y)

def MxsR (W : World) : List Mx → List Value → Prop
  | [], vs => vs = []
  | .leaf l :: ms, vs => ∃ v r, vs = v :: r ∧ l.R v ∧ MxsR W ms r
  | .sl ls :: ms, vs => ∃ v r, vs = v :: r ∧ SlR W ls v ∧ MxsR W ms r

theorem MxsR.append : ∀ {ms ms' : List Mx} {vs vs' : List Value}, MxsR W ms vs → MxsR W ms' vs' → MxsR W (ms ++ ms') (vs ++ vs')
  | [], _, vs, _, h, h' => by have h : vs = [] := h; subst h; exact h'
  | .leaf l :: ms, _, vs, _, h, h' => by
    obtain ⟨v, r, rfl, h1, h2⟩ := h
    exact ⟨v, _, rfl, h1, h2.append h'⟩
  | .sl ls :: ms, _, vs, _, h, h' => by
    obtain ⟨v, r, rfl, h1, h2⟩ := h
    exact ⟨v, _, rfl, h1, h2.append h'⟩

theorem MxsR.length : ∀ {ms : List Mx} {vs : List Value}, MxsR W ms vs → vs.length = ms.length
  | [], vs, h => by have h : vs = [] := h; subst h; rfl
  | .leaf l :: ms, vs, h => by
    obtain ⟨v, r, rfl, _, h2⟩ := h
    simp [h2.length]
  | .sl ls :: ms, vs, h => by
    obtain ⟨v, r, rfl, _, h2⟩ := h
    simp [h2.length]

theorem MxsR.of_flat : ∀ {ls : List Lf} {vs : List Value}, LfsR ls vs → MxsR W (ls.map .leaf) vs
  | [], vs, h => h
  | l :: ls, vs, h => by
    obtain ⟨v, r, rfl, h1, h2⟩ := h
    exact ⟨v, r, rfl, h1, MxsR.of_flat h2⟩

theorem mixFs_ok {mx : TypeId → Option (List Mx)} {rd : TypeId → List Value → Option (DataW H × List MemPlace)} (hf : ∀ t l cs x, mx t = some l → rd t cs = some x → MxsR W l cs) : ∀ {fs : List Field} {off n : Nat} {sh : List Mx} {cs : List Value} {xs : List (DataW H × List MemPlace)},
    cs.length = n → off ≤ n → mixFs mx P fs off n = some sh → fs.mapM (fun f => rd f.type ((cs.drop f.offset).take (P.cellsOf f.type))) = some xs → MxsR W sh (cs.drop off)
  | [], off, n, sh, cs, xs, hn, ho, h, hx => by
    unfold mixFs at h
    split at h
    · rename_i e
      simp at h; subst h
      exact List.drop_eq_nil_of_le (by omega)
    · simp at h
  | f :: fs, off, n, sh, cs, xs, hn, ho, h, hm => by
    unfold mixFs at h
    split at h
    · rename_i e
      obtain ⟨l, h1, h2⟩ := Option.bind_eq_some_iff.1 h
      split at h2
      · rename_i hl
        obtain ⟨r, h3, rfl⟩ := Option.map_eq_some_iff.1 h2
        rw [List.mapM_cons] at hm
        cases hx : rd f.type ((cs.drop f.offset).take (P.cellsOf f.type)) with
        | none => simp [hx] at hm
        | some x =>
          rw [hx] at hm
          cases hy : fs.mapM (fun f => rd f.type ((cs.drop f.offset).take (P.cellsOf f.type))) with
          | none => simp [hy] at hm
          | some ys =>
            have h4 := hf _ _ _ _ h1 hx
            have hlen := h4.length
            rw [List.length_take, List.length_drop] at hlen
            have hle : off + l.length ≤ n := by omega
            have h5 := mixFs_ok hf hn hle h3 hy
            have e2 : cs.drop off = (cs.drop f.offset).take (P.cellsOf f.type) ++ cs.drop (off + l.length) := by
              rw [e, ← hl, ← List.drop_drop, List.take_append_drop]
            rw [e2]
            exact h4.append h5
      · simp at h2
    · simp at h

theorem mixT_ok : ∀ (d : Nat) (n : Nat) (t : TypeId) (l : List Mx) (cs : List Value) (x : DataW H × List MemPlace), mixT P d t = some l → DataW.trod enc P W base sp held n t cs = some x → MxsR W l cs
  | 0, _, _, _, _, _, h, _ => by simp [mixT] at h
  | d + 1, 0, _, _, _, _, _, h => by simp [DataW.trod] at h
  | d + 1, n + 1, t, l, cs, x, h, hx => by
    unfold mixT at h
    split at h
    · rename_i k hu
      simp at h; subst h
      obtain ⟨m, rfl, rfl, hw⟩ := DataW.trod_int hu hx
      exact ⟨_, [], rfl, ⟨m, rfl, hw⟩, rfl⟩
    · rename_i hu
      simp at h; subst h
      obtain ⟨b, rfl, rfl⟩ := DataW.trod_bool hu hx
      exact ⟨_, [], rfl, ⟨b, rfl⟩, rfl⟩
    · rename_i e hu
      obtain ⟨ls, h3, h4⟩ := Option.bind_eq_some_iff.1 h
      split at h4
      · rename_i hc
        obtain ⟨hc1, hc2, hc3⟩ := hc
        simp at h4; subst h4
        obtain ⟨v, rfl⟩ : ∃ v, cs = [v] := by
          rcases DataW.trod_slice hu hx with ⟨h0, _⟩ | ⟨a, len, cap, elems, rest, m, _, h0, _⟩
          · exact ⟨_, h0⟩
          · exact ⟨_, h0⟩
        exact ⟨v, [], rfl, ⟨hc2, hc3, slice_open hu h3 hc1 hc2 hx⟩, rfl⟩
      · simp at h4
    · rename_i fs hu
      have hx' := hx
      simp only [DataW.trod, hu] at hx'
      split at hx'
      · rename_i hlen
        obtain ⟨xs, h1, rfl⟩ := Option.map_eq_some_iff.1 hx'
        have := mixFs_ok (W := W) (rd := DataW.trod enc P W base sp held n) (fun t l cs x h hx => mixT_ok d n t l cs x h hx) hlen (Nat.zero_le _) h h1
        simpa using this
      · simp at hx'
    · rename_i hu
      obtain ⟨ls, h3, rfl⟩ := Option.map_eq_some_iff.1 h
      exact MxsR.of_flat (flatT_ok 8 (n + 1) t ls cs x h3 hx).1
    · simp at h

theorem Found.split {c : Cx} {i a : Nat} {v1 v2 : List Int} {r1 r2 : List Rw} (h : Found c i a (v1 ++ v2) (r1 ++ r2)) : Found c i a v1 r1 ∧ Found c (i + v1.length) (a + r1.length) v2 r2 := by
  obtain ⟨h1, h2⟩ := h
  refine ⟨⟨fun j hj => ?_, fun j hj => ?_⟩, fun j hj => ?_, fun j hj => ?_⟩
  · have := h1 j (by simp; omega)
    simpa [List.getD_eq_getElem?_getD, List.getElem?_append_left hj] using this
  · have := h2 j (by simp; omega)
    simpa [List.getD_eq_getElem?_getD, List.getElem?_append_left hj] using this
  · have := h1 (v1.length + j) (by simp; omega)
    rw [show i + (v1.length + j) = i + v1.length + j by omega] at this
    simpa [List.getD_eq_getElem?_getD, List.getElem?_append_right] using this
  · have := h2 (r1.length + j) (by simp; omega)
    rw [show a + (r1.length + j) = a + r1.length + j by omega] at this
    simpa [List.getD_eq_getElem?_getD, List.getElem?_append_right] using this

/-- the cells of one parameter -/
theorem mx_open : ∀ {ms : List Mx} {vs : List Value}, MxsR W ms vs →
    ∃ (vals : List Int) (rows : List Rw), vals.length = ms.length ∧ (mxR ms).length = ms.length ∧ rows.length = mxRows ms ∧ (∀ j lo hi, (mxR ms)[j]? = some (lo, hi) → lo ≤ vals.getD j 0 ∧ vals.getD j 0 ≤ hi) ∧
      ∀ (c : Cx) (i a : Nat), Found c i a vals rows → VRs c (mxV ms i a) vs ∧ ∀ x ∈ mxB ms i a, x.1 < c.nb ∧ BlkR c W (c.β x.1) x.2
  | [], vs, h => by
    have h : vs = [] := h
    subst h
    exact ⟨[], [], rfl, rfl, rfl, fun j lo hi h => by simp [mxR] at h, fun c i a _ => ⟨VRs.nil, fun x hx => by simp [mxB] at hx⟩⟩
  | .leaf l :: ms, vs, h => by
    obtain ⟨v, r, rfl, h1, h2⟩ := h
    obtain ⟨vals, rows, g1, g0, g2, g3, g4⟩ := mx_open h2
    refine ⟨valOf v :: vals, rows, by simp [g1], by simp [mxR, g0], g2, fun j lo hi hj => ?_, fun c i a hF => ?_⟩
    · cases j with
      | zero =>
        have hj : some l.rng = some (lo, hi) := hj
        have := Lf.rng_ok h1
        rw [Option.some.inj hj] at this
        exact this
      | succ j => exact g3 j lo hi (by simpa [mxR] using hj)
    · obtain ⟨hF1, hF2⟩ := Found.split (v1 := [valOf v]) (v2 := vals) (r1 := []) (r2 := rows) hF
      obtain ⟨m1, m2⟩ := g4 c (i + 1) a hF2
      have hv : c.ρ i = valOf v := by simpa using hF1.1 0 (by simp)
      exact ⟨VRs.cons (Lf.v_ok h1 hv) m1, m2⟩
  | .sl ls :: ms, vs, h => by
    obtain ⟨v, r, rfl, ⟨hl0, hl1, len, cap, rw', k1, k2, k3⟩, h2⟩ := h
    obtain ⟨vals, rows, g1, g0, g2, g3, g4⟩ := mx_open h2
    refine ⟨(len : Int) :: vals, rw' :: rows, by simp [g1], by simp [mxR, g0], by simp [mxRows, g2], fun j lo hi hj => ?_, fun c i a hF => ?_⟩
    · cases j with
      | zero =>
        simp [mxR] at hj
        obtain ⟨rfl, rfl⟩ := hj
        simp; omega
      | succ j => exact g3 j lo hi (by simpa [mxR] using hj)
    · obtain ⟨hF1, hF2⟩ := hF
      have hlen : c.ρ i = (len : Int) := by have := hF1 0 (by simp); simpa using this
      obtain ⟨b1, b2, b3⟩ := hF2 0 (by simp)
      have b2 : c.β (4096 + a) = (rw'.b, rw'.o) := by simpa using b2
      obtain ⟨_, hF'⟩ := Found.split (v1 := [(len : Int)]) (v2 := vals) (r1 := [rw']) (r2 := rows) ⟨hF1, hF2⟩
      obtain ⟨m1, m2⟩ := g4 c (i + 1) (a + 1) hF'
      refine ⟨VRs.cons (VR.sarr.2 ⟨by simpa using b1, len, cap, hlen, k1, ?_⟩) m1, ?_⟩
      · unfold Cx.ad
        rw [b2]
        rcases k2 with ⟨p1, p2⟩ | p
        · exact .inl ⟨p1, p2⟩
        · exact .inr p
      · intro x hx
        have hx : x ∈ (4096 + a, Blk.srow a ls (.x i)) :: mxB ms (i + 1) (a + 1) := hx
        cases hx with
        | tail _ hx => exact m2 x hx
        | head =>
          refine ⟨by simpa using b1, fun hpos => ?_⟩
          have hpos : 0 < c.ρ i := hpos
          obtain ⟨cs, ty, fr, f1, f2⟩ := k3 (by omega)
          rw [b2]
          refine ⟨cs, ty, fr, f1, fun q r l hq hl => ?_⟩
          have hq : (q : Int) < c.ρ i := hq
          obtain ⟨y, y1, y2⟩ := f2 q r l (by omega) hl
          have hr : r < 64 := by
            have := (List.getElem?_eq_some_iff.1 hl).1
            omega
          have b3' := b3 r q hr
          have b3' : c.ρ (rowVar a r q) = rw'.z r q := by simpa using b3'
          exact ⟨y, y1, by rw [b3']; exact y2⟩

/-- the arguments -/
theorem pa_open : ∀ {ts : List TypeId} {vs : List Value} {ds : List (DataW H)} {ps : List MemPlace} {pas : List Pa} {r : Reach} {b0 : Nat}, DataW.TrodAll enc P W base sp held ts vs ds ps →
    (∀ (j : Nat) t v, ts[j]? = some t → vs[j]? = some v → Value.okWide P W r b0 t v) → ts.mapM (paOf P) = some pas →
    ∃ (vals : List Int) (rows : List Rw), vals.length = (paR pas).length ∧ rows.length = paRows pas ∧ (∀ j lo hi, (paR pas)[j]? = some (lo, hi) → lo ≤ vals.getD j 0 ∧ vals.getD j 0 ≤ hi) ∧
      ∀ (c : Cx) (i a : Nat), Found c i a vals rows → VRs c (paV pas i a) vs ∧ ∀ x ∈ paB pas i a, x.1 < c.nb ∧ BlkR c W (c.β x.1) x.2
  | [], [], [], ps, pas, r, b0, h, _, hs => by
    simp at hs; subst hs
    exact ⟨[], [], rfl, rfl, fun j lo hi h => by simp [paR] at h, fun c i a _ => ⟨VRs.nil, fun x hx => by simp [paB] at hx⟩⟩
  | t :: ts, v :: vs, d :: ds, ps, pas, r, b0, h, hval, hs => by
    obtain ⟨p, q, h1, h2, rfl⟩ := h
    rw [List.mapM_cons] at hs
    cases ha : paOf P t with
    | none => simp [ha] at hs
    | some s =>
      rw [ha] at hs
      cases hb : ts.mapM (paOf P) with
      | none => simp [hb] at hs
      | some ss =>
        rw [hb] at hs
        have hs : some (s :: ss) = some pas := hs
        simp at hs; subst hs
        obtain ⟨vals, rows, g1, g2, g3, g4⟩ := pa_open h2 (fun j t v ht hv => hval (j + 1) t v (by simpa using ht) (by simpa using hv)) hb
        obtain ⟨n, hn⟩ := h1
        have hv0 := hval 0 t v rfl rfl
        -- plain cells
        have plain : ∀ (ls : List Lf) (cs : List Value), LfsR ls cs → (paR (s :: ss) = ls.map Lf.rng ++ paR ss) → paRows (s :: ss) = paRows ss → (∀ i a, paB (s :: ss) i a = paB ss (i + ls.length) a) →
            (∀ i a, ∃ v0, paV (s :: ss) i a = v0 :: paV ss (i + ls.length) a ∧ ∀ c : Cx, VRs c (cellsV ls i) cs → VR c v0 v) →
            ∃ (vals : List Int) (rows : List Rw), vals.length = (paR (s :: ss)).length ∧ rows.length = paRows (s :: ss) ∧ (∀ j lo hi, (paR (s :: ss))[j]? = some (lo, hi) → lo ≤ vals.getD j 0 ∧ vals.getD j 0 ≤ hi) ∧
              ∀ (c : Cx) (i a : Nat), Found c i a vals rows → VRs c (paV (s :: ss) i a) (v :: vs) ∧ ∀ x ∈ paB (s :: ss) i a, x.1 < c.nb ∧ BlkR c W (c.β x.1) x.2 := by
          intro ls cs hR e1 e2 e3 e4
          have hlen := hR.length
          have hget : ∀ j, j < cs.length → (cs.map valOf ++ vals).getD j 0 = valOf (cs.getD j undef) := by
            intro j hj
            simp [List.getD_eq_getElem?_getD, List.getElem?_append_left (show j < (cs.map valOf).length by simpa using hj), hj]
          have hget2 : ∀ j, (cs.map valOf ++ vals).getD (cs.length + j) 0 = vals.getD j 0 := by
            intro j
            simp [List.getD_eq_getElem?_getD, List.getElem?_append_right]
          refine ⟨cs.map valOf ++ vals, rows, by rw [e1]; simp [hlen, g1], by rw [e2]; exact g2, fun j lo hi hj => ?_, fun c i a hF => ?_⟩
          · rw [e1] at hj
            by_cases hlt : j < cs.length
            · rw [List.getElem?_append_left (by simp; omega)] at hj
              rw [hget j hlt]
              exact rng_open hR j lo hi hj
            · rw [List.getElem?_append_right (by simp; omega)] at hj
              have := g3 _ lo hi hj
              simp only [List.length_map] at this
              rw [show j = cs.length + (j - ls.length) by omega, hget2]
              exact this
          · obtain ⟨hF1, hF2⟩ := hF
            have hF' : Found c (i + ls.length) a vals rows := ⟨fun j hj => by
              rw [show i + ls.length + j = i + (cs.length + j) by omega, hF1 _ (by simp; omega), hget2], hF2⟩
            obtain ⟨k1, k2⟩ := g4 c (i + ls.length) a hF'
            obtain ⟨v0, f1, f2⟩ := e4 i a
            refine ⟨by rw [f1]; exact VRs.cons (f2 c (cellsV_ok hR fun j hj => by rw [hF1 j (by simp; omega), hget j hj])) k1, by rw [e3]; exact k2⟩
        have leafCase : ∀ (l : Lf), s = .leaf l → flatT P 8 t = some [l] → v.cells.toList = [v] → ∃ (vals : List Int) (rows : List Rw), vals.length = (paR (s :: ss)).length ∧ rows.length = paRows (s :: ss) ∧ (∀ j lo hi, (paR (s :: ss))[j]? = some (lo, hi) → lo ≤ vals.getD j 0 ∧ vals.getD j 0 ≤ hi) ∧
              ∀ (c : Cx) (i a : Nat), Found c i a vals rows → VRs c (paV (s :: ss) i a) (v :: vs) ∧ ∀ x ∈ paB (s :: ss) i a, x.1 < c.nb ∧ BlkR c W (c.β x.1) x.2 := by
          rintro l rfl hl hc
          have h3 := (flatT_ok 8 n t [l] _ _ hl hn).1
          rw [hc] at h3
          exact plain [l] [v] h3 rfl rfl (fun _ _ => rfl) (fun i a => ⟨_, rfl, fun c hV => by
            obtain ⟨x, ys, e, g, _⟩ := VRs.cons_iff.1 hV
            simp at e
            rw [e.1]; exact g⟩)
        unfold paOf at ha
        split at ha
        · rename_i fs hu
          simp only [Value.okWide, hu] at hv0
          obtain ⟨cs, rfl, _⟩ := hv0
          split at ha
          · rename_i l h3
            obtain rfl := Option.some.inj ha
            exact plain l cs.toList (flatT_ok 8 n t l _ _ h3 hn).1 rfl rfl (fun _ _ => rfl) (fun i a => ⟨_, rfl, fun c hV => VR.agg.2 ⟨cs, rfl, hV⟩⟩)
          · obtain ⟨ms, h3, rfl⟩ := Option.map_eq_some_iff.1 ha
            obtain ⟨vals1, rows1, k1, k0, k2, k3, k4⟩ := mx_open (mixT_ok 8 n t ms _ _ h3 hn)
            refine ⟨vals1 ++ vals, rows1 ++ rows, by simp [paR, k1, k0, g1], by simp [paRows, k2, g2], fun j lo hi hj => ?_, fun c i a hF => ?_⟩
            · have hj : (mxR ms ++ paR ss)[j]? = some (lo, hi) := hj
              by_cases hlt : j < ms.length
              · rw [List.getElem?_append_left (by omega)] at hj
                have := k3 j lo hi hj
                simpa [List.getD_eq_getElem?_getD, List.getElem?_append_left (show j < vals1.length by omega)] using this
              · rw [List.getElem?_append_right (by omega)] at hj
                have := g3 _ lo hi hj
                rw [k0] at this
                simpa [List.getD_eq_getElem?_getD, List.getElem?_append_right (show vals1.length ≤ j by omega), k1] using this
            · obtain ⟨hF1, hF2⟩ := Found.split hF
              rw [k1, k2] at hF2
              obtain ⟨m1, m2⟩ := k4 c i a hF1
              obtain ⟨n1, n2⟩ := g4 c (i + ms.length) (a + mxRows ms) hF2
              refine ⟨VRs.cons (VR.agg.2 ⟨cs, rfl, m1⟩) n1, fun x hx => ?_⟩
              have hx : x ∈ mxB ms i a ++ paB ss (i + ms.length) (a + mxRows ms) := hx
              rcases List.mem_append.1 hx with hx | hx
              · exact m2 x hx
              · exact n2 x hx
        · rename_i m e hu
          obtain ⟨l, h3, rfl⟩ := Option.map_eq_some_iff.1 ha
          simp only [Value.okWide, hu] at hv0
          obtain ⟨cs, rfl, _⟩ := hv0
          exact plain l cs.toList (flatT_ok 8 n t l _ _ h3 hn).1 rfl rfl (fun _ _ => rfl) (fun i a => ⟨_, rfl, fun c hV => VR.agg.2 ⟨cs, rfl, hV⟩⟩)
        · rename_i k hu
          simp at ha; subst ha
          obtain ⟨m, rfl⟩ := okWide_int hu hv0
          exact leafCase _ rfl (by simp [flatT, hu]) rfl
        · rename_i hu
          simp at ha; subst ha
          obtain ⟨b, e, _⟩ := open_bool hu hv0 ⟨n, hn⟩
          subst e
          exact leafCase _ rfl (by simp [flatT, hu]) rfl
        · rename_i e hu
          obtain ⟨ls, h3, h4⟩ := Option.bind_eq_some_iff.1 ha
          split at h4
          · rename_i hc
            obtain ⟨hc1, hc2, hc3⟩ := hc
            simp at h4; subst h4
            have hvc : v.cells.toList = [v] := by
              simp only [Value.okWide, hu] at hv0
              cases v <;> first | rfl | (simp [Cell.okWide, Cell.ok, hu] at hv0)
            rw [hvc] at hn
            obtain ⟨len, cap, rw', k1, k2, k3⟩ := slice_open hu h3 hc1 hc2 hn
            refine ⟨(len : Int) :: vals, rw' :: rows, by simp [paR, g1], by simp [paRows, g2], fun j lo hi hj => ?_, fun c i a hF => ?_⟩
            · cases j with
              | zero =>
                simp [paR] at hj
                obtain ⟨rfl, rfl⟩ := hj
                simp; omega
              | succ j => exact g3 j lo hi (by simpa [paR] using hj)
            · obtain ⟨hF1, hF2⟩ := hF
              have hlen : c.ρ i = (len : Int) := by have := hF1 0 (by simp); simpa using this
              obtain ⟨b1, b2, b3⟩ := hF2 0 (by simp)
              have b2 : c.β (4096 + a) = (rw'.b, rw'.o) := by simpa using b2
              have hF' : Found c (i + 1) (a + 1) vals rows := ⟨fun j hj => by
                have := hF1 (j + 1) (by simpa using hj)
                rw [show i + 1 + j = i + (j + 1) by omega]; simpa using this, fun j hj => by
                have := hF2 (j + 1) (by simpa using hj)
                rw [show a + 1 + j = a + (j + 1) by omega]; simpa using this⟩
              obtain ⟨m1, m2⟩ := g4 c (i + 1) (a + 1) hF'
              refine ⟨VRs.cons (VR.sarr.2 ⟨by simpa using b1, len, cap, hlen, k1, ?_⟩) m1, ?_⟩
              · unfold Cx.ad
                rw [b2]
                rcases k2 with ⟨p1, p2⟩ | p
                · exact .inl ⟨p1, p2⟩
                · exact .inr p
              · intro x hx
                have hx : x ∈ (4096 + a, Blk.srow a ls (.x i)) :: paB ss (i + 1) (a + 1) := hx
                cases hx with
                | tail _ hx => exact m2 x hx
                | head =>
                  refine ⟨by simpa using b1, fun hpos => ?_⟩
                  have hpos : 0 < c.ρ i := hpos
                  obtain ⟨cs, ty, fr, f1, f2⟩ := k3 (by omega)
                  rw [b2]
                  refine ⟨cs, ty, fr, f1, fun q r l hq hl => ?_⟩
                  have hq : (q : Int) < c.ρ i := hq
                  obtain ⟨y, y1, y2⟩ := f2 q r l (by omega) hl
                  have hr : r < 64 := by
                    have := (List.getElem?_eq_some_iff.1 hl).1
                    omega
                  have b3' := b3 r q hr
                  have b3' : c.ρ (rowVar a r q) = rw'.z r q := by simpa using b3'
                  exact ⟨y, y1, by rw [b3']; exact y2⟩
          · simp at h4
        · simp at ha
  | [], _ :: _, _, _, _, _, _, h, _, _ => by cases h
  | [], [], _ :: _, _, _, _, _, h, _, _ => by cases h
  | _ :: _, [], _, _, _, _, _, h, _, _ => by cases h
  | _ :: _, _ :: _, [], _, _, _, _, h, _, _ => by cases h
end

end Go.Sy
