/-
  What is proved here: a disk as one state: its box, its medium (a map), its cache (a row of entries), the bytes of its blocks; what other writes leave alone.
  Conditions: none.
-/
import Derived.Test.YtdiameckiihppaaDoorSIdx
import Derived.MapKept
namespace Go.Proofs.YtdiameckiihppaaDoor
open Go.Proofs Go.RowKit

attribute [local go_sem] lt2 lt3 lt4 lt5

/-- an entry of the medium -/
def Ent.val (e : Ent) : Value := .slice e.A 64 e.c

/-- a map from numbers to blocks -/
def MedAt (w : World) (mb : Nat) (M : Nat → Option Ent) : Prop :=
  ∃ es clock, w.heap[mb]? = some (.map es clock) ∧ (es.toList.map (·.key)).Nodup ∧ (∀ x ∈ es.toList, ∃ m e, x.key = .int .i64 (m : Nat) ∧ M m = some e ∧ x.val = e.val) ∧ ∀ m e, M m = some e → ∃ x ∈ es.toList, x.key = .int .i64 (m : Nat)

theorem MedAt.keep {w w' : World} {mb : Nat} {M : Nat → Option Ent} (h : MedAt w mb M) (hk : w'.heap[mb]? = w.heap[mb]?) : MedAt w' mb M := by
  obtain ⟨es, clock, h1, h2⟩ := h
  exact ⟨es, clock, hk.trans h1, h2⟩
theorem MedAt.lt {w : World} {mb : Nat} {M : Nat → Option Ent} (h : MedAt w mb M) : mb < w.heap.size := by
  obtain ⟨es, clock, h1, h2⟩ := h
  exact (Array.getElem?_eq_some_iff.1 h1).1

theorem med_keys {es : Array MapEntry} {M : Nat → Option Ent} (h : ∀ x ∈ es.toList, ∃ m e, x.key = .int .i64 (m : Nat) ∧ M m = some e ∧ x.val = e.val) : ∀ x ∈ es.toList, MapKept.IsKey (.int .i64) x.key := by
  intro x hx
  obtain ⟨m, e, h1, _⟩ := h x hx
  rw [h1]
  rfl

set_option maxRecDepth 100000 in
/-- a look-up -/
theorem med_get {w : World} {mb : Nat} {M : Nat → Option Ent} (h : MedAt w mb M) (n : Nat) :
    (Instr.lookup 56 (.map (some mb)) (.int .i64 n) false).run Tryd.prog w = .ok (match M n with | some e => e.val | none => .slice none 0 0) w := by
  obtain ⟨es, clock, hb, hnd, h1, h2⟩ := h
  have hm := MapKept.run_getObj_map (P := Tryd.prog) hb
  have hk : MapKept.IsKey (.int .i64) (.int .i64 (n : Nat)) := rfl
  have hd : Tryd.prog.underlying 3 = some (.int .i64) := Tryd.underlying3
  have ht := Tryd.underlying56
  have hc : (Instr.checkKey es.isEmpty 10000 3 (.int .i64 (n : Nat))).run Tryd.prog w = .ok () w := MapKept.run_checkKey hd hk _ 9999
  rcases MapKept.findNow_spec hk es.toList 0 (med_keys h1) with ⟨g1, g2⟩ | ⟨j, e, g1, g2, g3⟩
  · have hM : M n = none := by
      cases hM : M n with
      | none => rfl
      | some e =>
        obtain ⟨x, hx, hk⟩ := h2 n e hM
        exact absurd hk (g2 x hx)
    rw [hM]
    simp [Instr.lookup, run_underlying ht, hm, hc, MapKept.run_findKey hd g1]
  · obtain ⟨m, e', k1, k2, k3⟩ := h1 e (List.mem_of_getElem? g2)
    have : m = n := by
      rw [k1] at g3
      injection g3 with _ g3
      omega
    subst this
    rw [k2]
    simp [Instr.lookup, run_underlying ht, hm, hc, MapKept.run_findKey hd g1, k3]

/-- a block is put -/
def putM (M : Nat → Option Ent) (n : Nat) (e : Ent) : Nat → Option Ent := fun m => if m = n then some e else M m

theorem med_put {w : World} {mb : Nat} {M : Nat → Option Ent} (h : MedAt w mb M) (n : Nat) (e : Ent) :
    ∃ w', (Instr.mapUpdate 56 (.map (some mb)) (.int .i64 n) e.val).run Tryd.prog w = .ok () w' ∧ Wrote mb w w' ∧ MedAt w' mb (putM M n e) := by
  obtain ⟨es, clock, hb, hnd, h1, h2⟩ := h
  have hm := MapKept.run_getObj_map (P := Tryd.prog) hb
  have hk : MapKept.IsKey (.int .i64) (.int .i64 (n : Nat)) := rfl
  have hd : Tryd.prog.underlying 3 = some (.int .i64) := Tryd.underlying3
  have ht := Tryd.underlying56
  have hlt := (Array.getElem?_eq_some_iff.1 hb).1
  have hc : (Instr.checkKey false 10000 3 (.int .i64 (n : Nat))).run Tryd.prog w = .ok () w := MapKept.run_checkKey hd hk _ 9999
  have hW : ∀ o, Wrote mb w { w with heap := w.heap.setIfInBounds mb o } := fun o => ⟨rfl, rfl, rfl, by simp, fun i hi => by simp [Ne.symm hi]⟩
  rcases MapKept.findNow_spec hk es.toList 0 (med_keys h1) with ⟨g1, g2⟩ | ⟨j, e0, g1, g2, g3⟩
  · refine ⟨{ w with heap := w.heap.setIfInBounds mb (.map (es.push ⟨.int .i64 n, e.val, clock⟩) (clock + 1)) }, ?_, hW _, ?_⟩
    · simp [Instr.mapUpdate, run_underlying ht, hm, hc, MapKept.run_findKey hd g1, MapKept.run_setObj_map _ hb]
    · refine ⟨_, _, (MapKept.heap_set hb).1, ?_, ?_, ?_⟩
      · simp only [Array.toList_push, List.map_append, List.map_cons, List.map_nil]
        rw [List.nodup_append]
        refine ⟨hnd, by simp, ?_⟩
        intro a ha b hb2
        simp only [List.mem_singleton] at hb2
        subst hb2
        obtain ⟨x, hx, rfl⟩ := List.mem_map.1 ha
        exact g2 x hx
      · intro x hx
        simp only [Array.toList_push, List.mem_append, List.mem_singleton] at hx
        rcases hx with hx | rfl
        · obtain ⟨m, e', k1, k2, k3⟩ := h1 x hx
          refine ⟨m, e', k1, ?_, k3⟩
          unfold putM
          rw [if_neg, k2]
          rintro rfl
          exact g2 x hx k1
        · exact ⟨n, e, rfl, by unfold putM; rw [if_pos rfl], rfl⟩
      · intro m e' hM
        unfold putM at hM
        simp only [Array.toList_push, List.mem_append, List.mem_singleton]
        by_cases hmn : m = n
        · subst hmn
          exact ⟨_, .inr rfl, rfl⟩
        · rw [if_neg hmn] at hM
          obtain ⟨x, hx, hk⟩ := h2 m e' hM
          exact ⟨x, .inl hx, hk⟩
  · have hj : es[j]? = some e0 := by simpa using g2
    refine ⟨{ w with heap := w.heap.setIfInBounds mb (.map (es.modify j fun x => { x with key := .int .i64 n, val := e.val }) clock) }, ?_, hW _, ?_⟩
    · simp [Instr.mapUpdate, run_underlying ht, hm, hc, MapKept.run_findKey hd g1, hj, g3, MapKept.run_keyThatStays hk, MapKept.run_setObj_map _ hb]
    · have hkeys : (es.modify j fun x => { x with key := .int .i64 n, val := e.val }).toList.map (·.key) = es.toList.map (·.key) := MapKept.modify_keys j _ (fun e' he' => by rw [hj] at he'; cases he'; exact g3.symm)
      have hget : ∀ i : Nat, (es.modify j fun x => { x with key := .int .i64 n, val := e.val }).toList[i]? = if j = i then (es.toList[i]?).map (fun x => { x with key := .int .i64 n, val := e.val }) else es.toList[i]? := by
        intro i
        simp only [Array.getElem?_toList, Array.getElem?_modify]
      have huni : ∀ (i : Nat) x, es.toList[i]? = some x → x.key = .int .i64 (n : Nat) → i = j := by
        intro i x hi hk
        have e1 : (es.toList.map (·.key))[i]? = some (.int .i64 (n : Nat)) := by rw [List.getElem?_map, hi]; simp [hk]
        have e2 : (es.toList.map (·.key))[j]? = some (.int .i64 (n : Nat)) := by rw [List.getElem?_map, g2]; simp [g3]
        have li := (List.getElem?_eq_some_iff.1 e1).1
        exact (List.getElem?_inj li hnd).1 (e1.trans e2.symm)
      refine ⟨_, _, (MapKept.heap_set hb).1, by rw [hkeys]; exact hnd, ?_, ?_⟩
      · intro x hx
        obtain ⟨i, hi⟩ := List.getElem?_of_mem hx
        rw [hget] at hi
        by_cases hij : j = i
        · subst hij
          rw [if_pos rfl, g2] at hi
          simp only [Option.map_some, Option.some.injEq] at hi
          subst hi
          exact ⟨n, e, rfl, by unfold putM; rw [if_pos rfl], rfl⟩
        · rw [if_neg hij] at hi
          obtain ⟨m, e', k1, k2, k3⟩ := h1 x (List.mem_of_getElem? hi)
          refine ⟨m, e', k1, ?_, k3⟩
          unfold putM
          rw [if_neg, k2]
          rintro rfl
          exact hij (huni i x hi k1).symm
      · intro m e' hM
        have : ∃ x ∈ es.toList, x.key = .int .i64 (m : Nat) := by
          unfold putM at hM
          by_cases hmn : m = n
          · subst hmn
            exact ⟨e0, List.mem_of_getElem? g2, g3⟩
          · rw [if_neg hmn] at hM
            exact h2 m e' hM
        obtain ⟨x, hx, hk⟩ := this
        have hmem : (.int .i64 (m : Nat)) ∈ es.toList.map (·.key) := List.mem_map.2 ⟨x, hx, hk⟩
        rw [← hkeys] at hmem
        obtain ⟨y, hy, hk2⟩ := List.mem_map.1 hmem
        exact ⟨y, hy, hk2⟩

/-- a disk's state -/
structure St where
  B : Nat
  C : Nat
  med : Nat → Option Ent
  cache : List Ent
  pend : Bool

/-- the cells of a disk's box -/
def dkC (B C : Nat) (v4 v5 v6 : Value) (mb : Nat) (A : Option Addr) (n c : Nat) (s1 s2 s3 : Int) (p : Bool) : Array Value :=
  #[.int .i64 B, .int .i64 64, .int .i64 C, .bool false, v4, v5, v6, .bool false, .map (some mb), .slice A n c, .int .u8 s1, .int .u8 s2, .int .u8 s3, .bool p, .pointer none, .pointer none, .pointer none, .slice none 0 0, .bool false, .bool false]

structure DkI (L : Nat → Prop) (d : Nat) (v4 v5 v6 : Value) (mb : Nat) (A : Option Addr) (c : Nat) (s1 s2 s3 : Int) (st : St) (w : World) : Prop where
  disk : w.heap[d]? = some (.cells (dkC st.B st.C v4 v5 v6 mb A st.cache.length c s1 s2 s3 st.pend) 65 (0, 0))
  med : MedAt w mb st.med
  row : RowF w 69 2 A st.cache.length c (flat st.cache)
  dat : ∀ e, (e ∈ st.cache ∨ ∃ m, st.med m = some e) → RowB w e.A 64 e.c e.b ∧ ∀ a, e.A = some a → ¬ L a.block
  nd : ¬ L d
  nm : ¬ L mb
  nr : ∀ a, A = some a → ¬ L a.block
  lt : ∀ i, L i → i < w.heap.size
  len : st.cache.length ≤ 5 ∧ st.C ≤ 5 ∧ 1 ≤ st.B ∧ st.B ≤ 16

def DiskAt (L : Nat → Prop) (d : Nat) (st : St) (w : World) : Prop := ∃ v4 v5 v6 mb A c s1 s2 s3, DkI L d v4 v5 v6 mb A c s1 s2 s3 st w

section
variable {L : Nat → Prop} {d : Nat} {v4 v5 v6 : Value} {mb : Nat} {A : Option Addr} {c : Nat} {s1 s2 s3 : Int} {st : St} {w w' : World}

theorem RowF.lt {e : TypeId} {sz n : Nat} {xs : List Value} (h : RowF w e sz A n c xs) : ∀ a, A = some a → a.block < w.heap.size := by
  intro a e
  obtain ⟨_, _, _, ⟨h4, _⟩ | ⟨b, off, cs, e2, h5, _⟩⟩ := h
  · rw [h4] at e; cases e
  · rw [e2] at e; cases e
    exact (Array.getElem?_eq_some_iff.1 h5).1

/-- blocks of others change, and new ones come -/
theorem DkI.foreign (h : DkI L d v4 v5 v6 mb A c s1 s2 s3 st w) (hs : w.heap.size ≤ w'.heap.size) (hk : ∀ i, i < w.heap.size → ¬ L i → w'.heap[i]? = w.heap[i]?) : DkI L d v4 v5 v6 mb A c s1 s2 s3 st w' where
  disk := (hk d (Array.getElem?_eq_some_iff.1 h.disk).1 h.nd).trans h.disk
  med := h.med.keep (hk mb h.med.lt h.nm)
  row := h.row.keep fun a e => hk _ (h.row.lt a e) (h.nr a e)
  dat e he := ⟨(h.dat e he).1.keep fun a ea => hk _ ((h.dat e he).1.lt a ea) ((h.dat e he).2 a ea), (h.dat e he).2⟩
  nd := h.nd
  nm := h.nm
  nr := h.nr
  lt i hi := Nat.lt_of_lt_of_le (h.lt i hi) hs
  len := h.len
theorem DkI.below (h : DkI L d v4 v5 v6 mb A c s1 s2 s3 st w) (hb : Below w.heap.size w w') : DkI L d v4 v5 v6 mb A c s1 s2 s3 st w' := h.foreign hb.size fun i hi _ => hb.block i hi
theorem DkI.drewN (h : DkI L d v4 v5 v6 mb A c s1 s2 s3 st w) (q : Nat) : DkI L d v4 v5 v6 mb A c s1 s2 s3 st (w.drewN q) := h.foreign (Nat.le_refl _) fun _ _ _ => rfl
/-- new blocks are others' -/
theorem DkI.widen (h : DkI L d v4 v5 v6 mb A c s1 s2 s3 st w) (hb : Below w.heap.size w w') : DkI (fun i => L i ∨ (w.heap.size ≤ i ∧ i < w'.heap.size)) d v4 v5 v6 mb A c s1 s2 s3 st w' where
  disk := (h.below hb).disk
  med := (h.below hb).med
  row := (h.below hb).row
  dat e he := ⟨((h.below hb).dat e he).1, fun a ea hl => hl.elim ((h.dat e he).2 a ea) (fun hl => by have := (h.dat e he).1.lt a ea; omega)⟩
  nd hl := hl.elim h.nd (fun hl => by have := (Array.getElem?_eq_some_iff.1 h.disk).1; omega)
  nm hl := hl.elim h.nm (fun hl => by have := h.med.lt; omega)
  nr a ea hl := hl.elim (h.nr a ea) (fun hl => by have := h.row.lt a ea; omega)
  lt i hl := hl.elim (fun hl => Nat.lt_of_lt_of_le (h.lt i hl) hb.size) (fun hl => hl.2)
  len := h.len
theorem DkI.sub {L' : Nat → Prop} (h : DkI L d v4 v5 v6 mb A c s1 s2 s3 st w) (hs : ∀ i, L' i → L i) : DkI L' d v4 v5 v6 mb A c s1 s2 s3 st w where
  disk := h.disk
  med := h.med
  row := h.row
  dat e he := ⟨(h.dat e he).1, fun a ea hl => (h.dat e he).2 a ea (hs _ hl)⟩
  nd hl := h.nd (hs _ hl)
  nm hl := h.nm (hs _ hl)
  nr a ea hl := h.nr a ea (hs _ hl)
  lt i hl := h.lt i (hs _ hl)
  len := h.len
/-- the box is not the map, nor the row, nor bytes -/
theorem DkI.ne1 (h : DkI L d v4 v5 v6 mb A c s1 s2 s3 st w) : d ≠ mb := by
  rintro rfl
  obtain ⟨es, clock, h1, _⟩ := h.med
  rw [h.disk] at h1
  simp at h1
theorem DkI.ne2 (h : DkI L d v4 v5 v6 mb A c s1 s2 s3 st w) : ∀ a, A = some a → a.block ≠ d ∧ a.block ≠ mb := by
  intro a e
  obtain ⟨_, _, _, ⟨h4, _⟩ | ⟨b, off, cs, e2, h5, _⟩⟩ := h.row
  · rw [h4] at e; cases e
  · rw [e2] at e; cases e
    refine ⟨?_, ?_⟩
    · rintro rfl
      rw [h.disk] at h5
      simp at h5
    · rintro rfl
      obtain ⟨es, clock, h1, _⟩ := h.med
      rw [h1] at h5
      simp at h5
theorem RowB.ne {B : Option Addr} {n c : Nat} {xs : List Int} (h : RowB w B n c xs) {i : Nat} (hi : ∀ cs, w.heap[i]? ≠ some (.cells cs 5 (0, 0))) : ∀ a, B = some a → a.block ≠ i := by
  intro a e
  obtain ⟨_, _, _, ⟨h4, _⟩ | ⟨b, off, cs, e2, h5, _⟩⟩ := h.1
  · rw [h4] at e; cases e
  · rw [e2] at e; cases e
    rintro rfl
    exact hi _ h5
theorem DkI.ne3 (h : DkI L d v4 v5 v6 mb A c s1 s2 s3 st w) {B : Option Addr} {n c : Nat} {xs : List Int} (hB : RowB w B n c xs) : ∀ b, B = some b → b.block ≠ d ∧ b.block ≠ mb ∧ ∀ a, A = some a → b.block ≠ a.block := by
  intro b e
  refine ⟨hB.ne (fun cs he => ?_) b e, hB.ne (fun cs he => ?_) b e, fun a ea => hB.ne (fun cs he => ?_) b e⟩
  · rw [h.disk] at he; simp at he
  · obtain ⟨es, clock, h1, _⟩ := h.med
    rw [h1] at he; simp at he
  · obtain ⟨_, _, _, ⟨h4, _⟩ | ⟨b', off, cs', e2, h5, _⟩⟩ := h.row
    · rw [h4] at ea; cases ea
    · rw [e2] at ea; cases ea
      rw [h5] at he; simp at he
/-- the disk's own blocks are written -/
theorem DkI.upd (h : DkI L d v4 v5 v6 mb A c s1 s2 s3 st w) {A' : Option Addr} {c' : Nat} {t1 t2 t3 : Int} {st' : St} (hx : w'.os = w.os ∧ w'.tape = w.tape ∧ w'.output = w.output) (hs : w.heap.size ≤ w'.heap.size)
    (hk : ∀ i, i < w.heap.size → i ≠ d → i ≠ mb → (∀ a, A = some a → i ≠ a.block) → w'.heap[i]? = w.heap[i]?)
    (hdisk : w'.heap[d]? = some (.cells (dkC st'.B st'.C v4 v5 v6 mb A' st'.cache.length c' t1 t2 t3 st'.pend) 65 (0, 0))) (hmed : MedAt w' mb st'.med) (hrow : RowF w' 69 2 A' st'.cache.length c' (flat st'.cache))
    (hdat : ∀ e, (e ∈ st'.cache ∨ ∃ m, st'.med m = some e) → (e ∈ st.cache ∨ ∃ m, st.med m = some e) ∨ (RowB w' e.A 64 e.c e.b ∧ ∀ a, e.A = some a → ¬ L a.block))
    (hr : ∀ a, A' = some a → ¬ L a.block) (hl : st'.cache.length ≤ 5 ∧ st'.C ≤ 5 ∧ 1 ≤ st'.B ∧ st'.B ≤ 16) : DkI L d v4 v5 v6 mb A' c' t1 t2 t3 st' w' ∧ Kp L w w' := by
  refine ⟨⟨hdisk, hmed, hrow, fun e he => ?_, h.nd, h.nm, hr, fun i hi => Nat.lt_of_lt_of_le (h.lt i hi) hs, hl⟩, hx.1, hx.2.1, hx.2.2, hs, fun i hi hL => hk i hi (fun e => h.nd (e ▸ hL)) (fun e => h.nm (e ▸ hL)) (fun a ea e => h.nr a ea (e ▸ hL))⟩
  rcases hdat e he with h1 | h1
  · refine ⟨(h.dat e h1).1.keep fun a ea => ?_, (h.dat e h1).2⟩
    obtain ⟨n1, n2, n3⟩ := h.ne3 (h.dat e h1).1 a ea
    exact hk _ ((h.dat e h1).1.lt a ea) n1 n2 n3
  · exact h1
theorem DiskAt.foreign (h : DiskAt L d st w) (hs : w.heap.size ≤ w'.heap.size) (hk : ∀ i, i < w.heap.size → ¬ L i → w'.heap[i]? = w.heap[i]?) : DiskAt L d st w' := by
  obtain ⟨_, _, _, _, _, _, _, _, _, hI⟩ := h
  exact ⟨_, _, _, _, _, _, _, _, _, hI.foreign hs hk⟩
theorem DiskAt.below (h : DiskAt L d st w) (hb : Below w.heap.size w w') : DiskAt L d st w' := h.foreign hb.size fun i hi _ => hb.block i hi
theorem DiskAt.drewN (h : DiskAt L d st w) (q : Nat) : DiskAt L d st (w.drewN q) := h.foreign (Nat.le_refl _) fun _ _ _ => rfl
theorem DiskAt.sub {L' : Nat → Prop} (h : DiskAt L d st w) (hs : ∀ i, L' i → L i) : DiskAt L' d st w := by
  obtain ⟨_, _, _, _, _, _, _, _, _, hI⟩ := h
  exact ⟨_, _, _, _, _, _, _, _, _, hI.sub hs⟩
/-- blocks between two sizes belong to others too -/
def Wid (L : Nat → Prop) (a b : Nat) : Nat → Prop := fun i => L i ∨ (a ≤ i ∧ i < b)
theorem DiskAt.widen (h : DiskAt L d st w) (hb : Below w.heap.size w w') : DiskAt (Wid L w.heap.size w'.heap.size) d st w' := by
  obtain ⟨_, _, _, _, _, _, _, _, _, hI⟩ := h
  exact ⟨_, _, _, _, _, _, _, _, _, hI.widen hb⟩
theorem DiskAt.narrow {a b : Nat} (h : DiskAt (Wid L a b) d st w) : DiskAt L d st w := h.sub fun _ hi => .inl hi
theorem Kp.narrow {a b : Nat} (h : Kp (Wid L a b) w w') : Kp L w w' := h.sub fun _ hi => .inl hi
/-- a block of others is written -/
theorem DiskAt.wrote {g : Nat} (h : DiskAt L d st w) (hW : Wrote g w w') (hg : L g) : DiskAt L d st w' := h.foreign (Nat.le_of_eq hW.size.symm) fun i _ hi => hW.other i fun e => hi (e ▸ hg)
end
end Go.Proofs.YtdiameckiihppaaDoor
