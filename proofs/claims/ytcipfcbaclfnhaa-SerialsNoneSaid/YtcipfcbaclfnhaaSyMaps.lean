/-
  What is proved here: what the evaluator writes into maps is what the model writes.
  Conditions: none.
-/
import Derived.Test.YtcipfcbaclfnhaaSyAppend4
namespace Go.Sy

section ops
variable {P : Program} {c : Cx} {m m' : Mem} {w : World} {p q : Pc}

def World.putObj (w : World) (r : Nat) (o : Obj) : World := { w with heap := w.heap.setIfInBounds r o }

theorem run_setObj {r : Nat} {es : Array MapEntry} {k : Nat} {o : Obj} (h : w.heap[r]? = some (.map es k)) : (setObj r o).run P w = .ok () (World.putObj w r o) := by
  simp [setObj, Sem.run, h, World.putObj]

theorem putObj_same {r : Nat} {o : Obj} (h : r < w.heap.size) : (World.putObj w r o).heap[r]? = some o := by
  simp [World.putObj, h]
theorem putObj_other {r k : Nat} {o : Obj} (h : k ≠ r) : (World.putObj w r o).heap[k]? = w.heap[k]? := by
  simp [World.putObj, Array.getElem?_setIfInBounds]
  intro e; exact absurd e.symm h

theorem getMap_gives {i : Nat} {a : List (V × V × Nat) × Nat} (h : (getMap i).gives c.ρ m p a q) : q = p ∧ m.tr.get i = some (.map a.1 a.2 true) := by
  obtain ⟨es, kk, wr, hb, h1⟩ := onMapB_gives (show T.out c.ρ (onMapB (m.tr.get i) (fun es c' wr => selB wr (T.ret (⟨(es, c'), p⟩ : Rp (List (V × V × Nat) × Nat))) (.fail "no map that may be written")) (T.fail "no map that may be written")) = some ⟨a, q⟩ from h)
  cases wr with
  | false => simp [selB, T.out] at h1
  | true =>
    simp only [selB, T.out, Option.some.injEq, Rp.mk.injEq] at h1
    obtain ⟨rfl, rfl⟩ := h1
    exact ⟨rfl, hb⟩

/-- a map, written -/
theorem setMap_ok (hm : MemR c m w) {i : Nat} {es es1 : List (V × V × Nat)} {k k1 : Nat} {es1' : Array MapEntry} (hb : m.tr.get i = some (.map es k true)) (he : EsR c es1 es1'.toList) (h : (setMap i es1 k1).gives c.ρ m p () m' q) :
    q = p ∧ Step c m w c m' (World.putObj w (c.β i).1 (.map es1' k1)) ∧ ∀ r : Nat, r = (c.β i).1 → (setObj r (.map es1' k1)).run P w = .ok () (World.putObj w (c.β i).1 (.map es1' k1)) := by
  obtain ⟨rfl, rfl⟩ := putBlk_gives (show (putBlk i (.map es1 k1 true)).gives c.ρ m p () m' q from h)
  obtain ⟨hi, hblk⟩ := hm.blk i _ hb
  obtain ⟨es', h1, h2⟩ := hblk
  have hlt : (c.β i).1 < w.heap.size := (Array.getElem?_eq_some_iff.1 h1).1
  refine ⟨rfl, Step.put hm hb rfl ⟨es1', putObj_same hlt, he⟩ (by simp [World.putObj]) (fun k hk => putObj_other hk) rfl rfl rfl, ?_⟩
  rintro r rfl
  exact run_setObj h1

theorem EsR.push {es : List (V × V × Nat)} {es' : Array MapEntry} {k v : V} {K X : Value} {b : Nat} (he : EsR c es es'.toList) (hk : VR c k K) (hv : VR c v X) : EsR c (es ++ [(k, v, b)]) (es'.push ⟨K, X, b⟩).toList := by
  have hl := he.1
  refine ⟨by simp at hl ⊢; omega, fun n e hn => ?_⟩
  rcases Nat.lt_or_ge n es.length with h | h
  · rw [List.getElem?_append_left h] at hn
    obtain ⟨e', h1, h2⟩ := he.2 n e hn
    refine ⟨e', ?_, h2⟩
    have : n < es'.toList.length := (List.getElem?_eq_some_iff.1 h1).1
    rw [Array.toList_push, List.getElem?_append_left this]; exact h1
  · rw [List.getElem?_append_right h] at hn
    have h0 : n - es.length = 0 := by
      rcases Nat.eq_zero_or_pos (n - es.length) with h' | h'
      · exact h'
      · rw [List.getElem?_eq_none (by simp; omega)] at hn; simp at hn
    rw [h0] at hn
    simp at hn; subst hn
    refine ⟨⟨K, X, b⟩, ?_, hk, hv, rfl⟩
    rw [Array.toList_push, List.getElem?_append_right (by omega)]
    have : n - es'.toList.length = 0 := by omega
    rw [this]; rfl

theorem setEntry_get (k v : V) : ∀ (es : List (V × V × Nat)) (j n : Nat), (setEntry k v es j).length = es.length ∧ (setEntry k v es j)[n]? = es[n]?.map fun e => if n = j then (k, v, e.2.2) else e
  | [], j, n => by simp [show setEntry k v [] j = [] from rfl]
  | e :: es, 0, n => by
    rw [show setEntry k v (e :: es) 0 = (k, v, e.2.2) :: es from rfl]
    refine ⟨by simp, ?_⟩
    cases n with
    | zero => simp
    | succ n => simp
  | e :: es, j + 1, n => by
    rw [show setEntry k v (e :: es) (j + 1) = e :: setEntry k v es j from rfl]
    refine ⟨by simp [(setEntry_get k v es j 0).1], ?_⟩
    cases n with
    | zero => simp
    | succ n => simp [(setEntry_get k v es j n).2]

theorem setVal_get (v : V) : ∀ (es : List (V × V × Nat)) (j n : Nat), (setVal v es j).length = es.length ∧ (setVal v es j)[n]? = es[n]?.map fun e => if n = j then (e.1, v, e.2.2) else e
  | [], j, n => by simp [show setVal v [] j = [] from rfl]
  | e :: es, 0, n => by
    rw [show setVal v (e :: es) 0 = (e.1, v, e.2.2) :: es from rfl]
    refine ⟨by simp, ?_⟩
    cases n with
    | zero => simp
    | succ n => simp
  | e :: es, j + 1, n => by
    rw [show setVal v (e :: es) (j + 1) = e :: setVal v es j from rfl]
    refine ⟨by simp [(setVal_get v es j 0).1], ?_⟩
    cases n with
    | zero => simp
    | succ n => simp [(setVal_get v es j n).2]

theorem delEntry_eq : ∀ (es : List (V × V × Nat)) (j : Nat), delEntry es j = es.eraseIdx j
  | [], _ => rfl
  | _ :: _, 0 => rfl
  | e :: es, j + 1 => by rw [show delEntry (e :: es) (j + 1) = e :: delEntry es j from rfl, delEntry_eq es j]; rfl

theorem EsR.setEntry {es : List (V × V × Nat)} {es' : Array MapEntry} {k v : V} {K X : Value} (j : Nat) (he : EsR c es es'.toList) (hk : VR c k K) (hv : VR c v X) :
    EsR c (setEntry k v es j) (es'.modify j fun e => { e with key := K, val := X }).toList := by
  have hl := he.1
  refine ⟨by rw [(setEntry_get k v es j 0).1]; simpa using hl, fun n e hn => ?_⟩
  rw [(setEntry_get k v es j n).2, Option.map_eq_some_iff] at hn
  obtain ⟨e0, h0, rfl⟩ := hn
  obtain ⟨e', h1, h2, h3, h4⟩ := he.2 n e0 h0
  rw [Array.toList_modify, List.getElem?_modify, h1]
  by_cases hj : n = j
  · subst hj
    exact ⟨{ e' with key := K, val := X }, by simp, by simp; exact hk, by simp; exact hv, by simpa using h4⟩
  · exact ⟨e', by simp [Ne.symm hj], by simp [hj]; exact h2, by simp [hj]; exact h3, by simpa [hj] using h4⟩

theorem EsR.setVal {es : List (V × V × Nat)} {es' : Array MapEntry} {v : V} {X : Value} (j : Nat) (he : EsR c es es'.toList) (hv : VR c v X) :
    EsR c (setVal v es j) (es'.modify j fun e => { e with val := X }).toList := by
  have hl := he.1
  refine ⟨by rw [(setVal_get v es j 0).1]; simpa using hl, fun n e hn => ?_⟩
  rw [(setVal_get v es j n).2, Option.map_eq_some_iff] at hn
  obtain ⟨e0, h0, rfl⟩ := hn
  obtain ⟨e', h1, h2, h3, h4⟩ := he.2 n e0 h0
  rw [Array.toList_modify, List.getElem?_modify, h1]
  by_cases hj : n = j
  · subst hj
    exact ⟨{ e' with val := X }, by simp, by simp; exact h2, by simp; exact hv, by simpa using h4⟩
  · exact ⟨e', by simp [Ne.symm hj], by simp [hj]; exact h2, by simp [hj]; exact h3, by simpa [hj] using h4⟩

theorem EsR.del {es : List (V × V × Nat)} {es' : Array MapEntry} (j : Nat) (he : EsR c es es'.toList) : EsR c (delEntry es j) (es'.eraseIdxIfInBounds j).toList := by
  have hl := he.1
  have : (es'.eraseIdxIfInBounds j).toList = es'.toList.eraseIdx j := by simp
  rw [this, delEntry_eq]
  refine ⟨by simp only [List.length_eraseIdx, hl], fun n e hn => ?_⟩
  rw [List.getElem?_eraseIdx] at hn
  rw [List.getElem?_eraseIdx]
  split at hn
  · obtain ⟨e', h1, h2⟩ := he.2 n e hn
    exact ⟨e', by rw [if_pos (by assumption)]; exact h1, h2⟩
  · obtain ⟨e', h1, h2⟩ := he.2 (n + 1) e hn
    exact ⟨e', by rw [if_neg (by assumption)]; exact h1, h2⟩

/-- a map that may be written, and a search in it -/
theorem mapFind_ok (hm : MemR c m w) (hp : PcR c.ρ p) {kt : TypeId} {i : Nat} {k : V} {K : Value} (hk : VR c k K) (hpl : keyOK P kt = true) {es : List (V × V × Nat)} {kk : Nat} {r : Option (Nat × V)} (hb : m.tr.get i = some (.map es kk true))
    (h : (findKey P kt k es 0).gives c.ρ m p r q) : PcR c.ρ q ∧ ∃ (es' : Array MapEntry) (r' : Option (Nat × Value)), w.heap[(c.β i).1]? = some (.map es' kk) ∧ EsR c es es'.toList ∧ (Instr.findKey kt K es'.toList).run P w = .ok r' w ∧ FoundR (plainK P kt) es es'.toList K 0 r r' := by
  obtain ⟨_, es', h1, h2⟩ := hm.blk i _ hb
  obtain ⟨h3, r', h4, h5⟩ := findAll_ok hm hp hpl hk h2 h
  exact ⟨h3, es', r', h1, h2, h4, h5⟩

theorem run_stays {old new : Value} (h : Instr.sameBits 10000 old new = true) : (Instr.keyThatStays old new).run P w = .ok new w := by
  simp [Instr.keyThatStays, h]

theorem mapUpdate_ok (hm : MemR c m w) (hp : PcR c.ρ p) {t : TypeId} {mp k v : V} {MP K X : Value} (hmp : VR c mp MP) (hk : VR c k K) (hv : VR c v X) (h : (mapUpdateM P t mp k v).gives c.ρ m p () m' q) :
    PcR c.ρ q ∧ ∃ w', Step c m w c m' w' ∧ (Instr.mapUpdate t MP K X).run P w = .ok () w' := by
  unfold mapUpdateM at h
  cases ha : mapOf P t with
  | none => rw [ha] at h; exact (M.gives_fail h).elim
  | some a =>
    rw [ha] at h
    obtain ⟨hu, hpl⟩ := mapOf_some ha
    obtain ⟨hfit, h⟩ := M.gives_if (show (selB (keyFit P a.1 k) (onMap mp (fun i => (getMap i).thn fun es => (findKey P a.1 k es.1 0).thn fun r => updFound (plainK P a.1) i es.1 es.2 k v r) (M.fail "map update")) (M.fail "map update the key")).gives c.ρ m p () m' q from h)
    obtain ⟨i, rfl, h1⟩ := onMapM_gives (s := "map update") h
    obtain ⟨es, p1, h2, h3⟩ := R.gives_thn h1
    obtain ⟨rfl, hb⟩ := getMap_gives h2
    obtain ⟨r, p2, h4, h5⟩ := R.gives_thn h3
    obtain ⟨hp2, es', r', h6, h7, h8, h9⟩ := mapFind_ok hm hp hk hpl hb h4
    obtain ⟨_, rfl⟩ := VR.map.1 hmp
    have hg : (getObj (c.β i).1).run P w = .ok (.map es' es.2) w := run_getObj h6
    cases r with
    | none =>
      have h9 : r' = none := h9
      subst h9
      obtain ⟨rfl, h10, h11⟩ := setMap_ok (P := P) hm hb (h7.push hk hv (b := es.2)) (show (setMap i (es.1 ++ [(k, v, es.2)]) (Nat.succ es.2)).gives c.ρ m p2 () m' q from h5)
      exact ⟨hp2, _, h10, by simpa [Instr.mapUpdate, run_und hu, hg, checkKey_ok hpl hk hfit, h8] using h11 _ rfl⟩
    | some b =>
      obtain ⟨j, e, e', rfl, h12, h13, rfl, h14⟩ := h9
      obtain ⟨hpk, h5⟩ := M.gives_if (show (selB (plainK P a.1) (setMap i (setEntry k v es.1 (0 + j)) es.2) (M.fail "map update there already")).gives c.ρ m p2 () m' q from h5)
      have h14 := h14 hpk
      obtain ⟨rfl, h10, h11⟩ := setMap_ok (P := P) hm hb (h7.setEntry (0 + j) hk hv) h5
      have h13 : es'[j]? = some e' := by simpa using h13
      refine ⟨hp2, _, h10, ?_⟩
      rw [Nat.zero_add] at h11
      simpa [Instr.mapUpdate, run_und hu, hg, checkKey_ok hpl hk hfit, h8, h13, run_stays h14] using h11 _ rfl

theorem delete_ok (hm : MemR c m w) (hp : PcR c.ρ p) {t ty : TypeId} {ts : Array TypeId} {xs : Array Value} {mp k v : V} {MP K : Value} (hts : ts[0]? = some t) (h0 : xs[0]? = some MP) (h1' : xs[1]? = some K) (hmp : VR c mp MP) (hk : VR c k K)
    (h : (deleteM P t mp k).gives c.ρ m p v m' q) : PcR c.ρ q ∧ EfOK P c m w m' v (Builtin.delete_ ts ty xs) := by
  unfold deleteM at h
  cases ha : mapOf P t with
  | none => rw [ha] at h; exact (M.gives_fail h).elim
  | some a =>
    rw [ha] at h
    obtain ⟨hu, hpl⟩ := mapOf_some ha
    obtain ⟨hfit, hd⟩ := M.gives_if (show (selB (keyFit P a.1 k) (V.rec (motive_1 := fun _ => M V) (motive_2 := fun _ => Unit) (fun _ => M.fail "delete") (fun _ _ => M.fail "delete") (fun _ => M.fail "delete") (M.fail "delete") (fun _ _ => M.fail "delete") (M.fail "delete") (fun _ _ _ _ => M.fail "delete") (M.pure (.tuple [])) (fun i => (getMap i).thn fun es => (findKey P a.1 k es.1 0).thn fun r => delFound i es.1 es.2 r) (fun _ _ _ _ _ => M.fail "delete") (M.fail "delete") (fun _ _ _ => M.fail "delete") (M.fail "delete") (fun _ _ => M.fail "delete") (fun _ _ => M.fail "delete") (M.fail "delete") (fun _ _ _ => M.fail "delete") (fun _ _ _ _ => M.fail "delete") (fun _ _ => M.fail "delete") Unit.unit (fun _ _ _ _ => Unit.unit) mp) (M.fail "delete the key")).gives c.ρ m p v m' q from h)
    clear h
    have h := hd
    clear hd
    have hnil : VR c (V.tuple []) (.tuple #[]) := VR.tuple.2 ⟨#[], rfl, VRs.nil⟩
    cases mp <;> try exact (M.gives_fail (s := "delete") h).elim
    case nilMap =>
      obtain ⟨rfl, rfl, rfl⟩ := M.gives_pure (show (M.pure (V.tuple [])).gives c.ρ m p v m' q from h)
      rw [VR.nilMap] at hmp; subst hmp
      exact ⟨hp, c, w, .tuple #[], Step.refl hm, by simp [Builtin.delete_, hts, h0, h1', run_und hu, checkKey_ok hpl hk hfit], hnil⟩
    case map i =>
      have h1 : ((getMap i).thn fun es => (findKey P a.1 k es.1 0).thn fun r => delFound i es.1 es.2 r).gives c.ρ m p v m' q := h
      obtain ⟨es, p1, h2, h3⟩ := R.gives_thn h1
      obtain ⟨rfl, hb⟩ := getMap_gives h2
      obtain ⟨r, p2, h4, h5⟩ := R.gives_thn h3
      obtain ⟨hp2, es', r', h6, h7, h8, h9⟩ := mapFind_ok hm hp hk hpl hb h4
      obtain ⟨_, rfl⟩ := VR.map.1 hmp
      have hg : (getObj (c.β i).1).run P w = .ok (.map es' es.2) w := run_getObj h6
      have hlt : (c.β i).1 < w.heap.size := (Array.getElem?_eq_some_iff.1 h6).1
      cases r with
      | none =>
        have h9 : r' = none := h9
        subst h9
        obtain ⟨rfl, rfl, rfl⟩ := M.gives_pure (show (M.pure (V.tuple [])).gives c.ρ m p2 v m' q from h5)
        have hself : World.putObj w (c.β i).1 (.map es' es.2) = w := by
          unfold World.putObj
          congr 1
          apply Array.ext_getElem?
          intro j
          rw [Array.getElem?_setIfInBounds]
          split
          · rename_i e; subst e; exact h6.symm
          · rfl
        have hrun : (setObj (c.β i).1 (.map es' es.2)).run P w = .ok () w := by rw [run_setObj h6, hself]
        exact ⟨hp2, c, w, .tuple #[], Step.refl hm, by simp [Builtin.delete_, hts, h0, h1', run_und hu, checkKey_ok hpl hk hfit, hg, h8, hrun], hnil⟩
      | some b =>
        obtain ⟨j, e, e', rfl, h12, h13, rfl, h14⟩ := h9
        obtain ⟨_, m1, p3, h15, h16⟩ := M.gives_bnd (show ((setMap i (delEntry es.1 (0 + j)) es.2).bnd fun _ => M.pure (V.tuple [])).gives c.ρ m p2 v m' q from h5)
        obtain ⟨rfl, rfl, rfl⟩ := M.gives_pure h16
        obtain ⟨rfl, h10, h11⟩ := setMap_ok (P := P) hm hb (h7.del (0 + j)) h15
        rw [Nat.zero_add] at h10 h11
        exact ⟨hp2, c, _, .tuple #[], h10, by simp [Builtin.delete_, hts, h0, h1', run_und hu, checkKey_ok hpl hk hfit, hg, h8, h11 _ rfl], hnil⟩

theorem bornAt_ok {es : List (V × V × Nat)} {es' : List MapEntry} {j : Nat} {e : V × V × Nat} {e' : MapEntry} (he : EsR c es es') (h : es[j]? = some e) (h' : es'[j]? = some e') : bornAt es j = e'.born := by
  obtain ⟨e1, h1, _, _, h2⟩ := he.2 j e h
  rw [h'] at h1; simp at h1; subst h1
  unfold bornAt
  rw [nth_eq, h]; exact h2.symm

theorem mapEntry_ok (hm : MemR c m w) (hp : PcR c.ρ p) {t : TypeId} {mp k v : V} {MP K : Value} (hmp : VR c mp MP) (hk : VR c k K) (h : (mapEntryM P t mp k).gives c.ρ m p v m' q) :
    PcR c.ρ q ∧ EfOK P c m w m' v (Instr.mapEntry t MP K) := by
  unfold mapEntryM at h
  cases ha : mapOf P t with
  | none => rw [ha] at h; exact (M.gives_fail h).elim
  | some a =>
    rw [ha] at h
    obtain ⟨hu, hpl⟩ := mapOf_some ha
    obtain ⟨hfit, h⟩ := M.gives_if (show (selB (keyFit P a.1 k) (onMap mp (fun i => (getMap i).thn fun es => (findKey P a.1 k es.1 0).thn fun r => entFound (plainK P a.1) P a.2 i es.1 es.2 k r) (M.fail "map entry")) (M.fail "map entry the key")).gives c.ρ m p v m' q from h)
    obtain ⟨i, rfl, h1⟩ := onMapM_gives (s := "map entry") h
    obtain ⟨es, p1, h2, h3⟩ := R.gives_thn h1
    obtain ⟨rfl, hb⟩ := getMap_gives h2
    obtain ⟨r, p2, h4, h5⟩ := R.gives_thn h3
    obtain ⟨hp2, es', r', h6, h7, h8, h9⟩ := mapFind_ok hm hp hk hpl hb h4
    obtain ⟨_, rfl⟩ := VR.map.1 hmp
    have hg : (getObj (c.β i).1).run P w = .ok (.map es' es.2) w := run_getObj h6
    cases r with
    | none =>
      have h9 : r' = none := h9
      subst h9
      obtain ⟨z, p3, h10, h11⟩ := R.gives_thn (show ((R.opt "zero" (zeroOf P a.2)).thn fun z => (setMap i (es.1 ++ [(k, z, es.2)]) (Nat.succ es.2)).bnd fun _ => (lenN es.2).thn fun n => M.pure (V.tuple [z, n])).gives c.ρ m p2 v m' q from h5)
      obtain ⟨h12, rfl⟩ := R.gives_opt h10
      obtain ⟨i', zv, _, _, h13, h14⟩ := zeroOf_ok h12
      obtain ⟨_, m1, p4, h15, h16⟩ := M.gives_bnd h11
      obtain ⟨n, p5, h17, h18⟩ := R.gives_thn h16
      obtain ⟨rfl, rfl, rfl⟩ := M.gives_pure h18
      obtain ⟨rfl, h19⟩ := lenN_ok h17
      obtain ⟨rfl, h20, h21⟩ := setMap_ok (P := P) hm hb (h7.push hk (h13 c) (b := es.2)) h15
      exact ⟨hp2, c, _, .tuple #[zv, goInt es.2], h20, by simp [Instr.mapEntry, run_und hu, hg, checkKey_ok hpl hk hfit, h8, h14, h21 _ rfl], VR.tuple.2 ⟨_, rfl, VRs.cons (h13 c) (VRs.cons h19 VRs.nil)⟩⟩
    | some b =>
      obtain ⟨x, hx, hxv⟩ := h9.val h7
      obtain ⟨j, e, e', rfl, h12, h13, rfl, h14⟩ := h9
      have hxe : x = e'.val := by simpa using hx.symm
      subst hxe
      obtain ⟨hpk, h5⟩ := M.gives_if (show (selB (plainK P a.1) ((setMap i (setEntry k e.2.1 es.1 (0 + j)) es.2).bnd fun _ => (lenN (bornAt es.1 (0 + j))).thn fun n => M.pure (V.tuple [e.2.1, n])) (M.fail "map entry there already")).gives c.ρ m p2 v m' q from h5)
      have h14 := h14 hpk
      obtain ⟨_, m1, p4, h15, h16⟩ := M.gives_bnd h5
      obtain ⟨n, p5, h17, h18⟩ := R.gives_thn h16
      obtain ⟨rfl, rfl, rfl⟩ := M.gives_pure h18
      obtain ⟨rfl, h19⟩ := lenN_ok h17
      rw [Nat.zero_add] at h15 h19
      rw [bornAt_ok h7 h12 h13] at h19
      have h13' : es'[j]? = some e' := by simpa using h13
      have hmod : (es'.modify j fun e => { e with key := K, val := e'.val }) = es'.modify j fun e => { e with key := K } := by
        apply Array.ext_getElem?
        intro n
        simp only [Array.getElem?_modify]
        split
        · rename_i hn; subst hn; rw [h13']; rfl
        · rfl
      obtain ⟨rfl, h20, h21⟩ := setMap_ok (P := P) hm hb (h7.setEntry j hk hxv) h15
      rw [hmod] at h20 h21
      exact ⟨hp2, c, _, .tuple #[e'.val, goInt e'.born], h20, by simp [Instr.mapEntry, run_und hu, hg, checkKey_ok hpl hk hfit, h8, h13', run_stays h14, h21 _ rfl], VR.tuple.2 ⟨_, rfl, VRs.cons hxv (VRs.cons h19 VRs.nil)⟩⟩

theorem findBorn_ok {b : Int} : ∀ {es : List (V × V × Nat)} {es' : List MapEntry} {n j : Nat}, EsR c es es' → findBorn b es n = some j → ∃ k, j = n + k ∧ es'.findIdx? (fun e => (e.born : Int) == b) = some k
  | [], es', n, j, _, h => by
    have h : none = some j := h
    simp at h
  | e :: es, es', n, j, he, h => by
    cases es' with
    | nil => exact absurd he.1 (by simp)
    | cons e' es' =>
      obtain ⟨e1, h1, _, _, h2⟩ := he.2 0 e (by simp)
      simp at h1; subst h1
      have he' : EsR c es es' := ⟨by simpa using he.1, fun j u hu => by simpa using he.2 (j + 1) u (by simpa using hu)⟩
      have h : selB (eqZ (.ofNat e.2.2) b) (some n) (findBorn b es (Nat.succ n)) = some j := h
      rw [List.findIdx?_cons]
      cases hc : eqZ (.ofNat e.2.2) b with
      | true =>
        rw [hc] at h
        have h : some n = some j := h
        simp at h; subst h
        rw [eqZ_iff] at hc
        have : ((e'.born : Int) == b) = true := by rw [h2, ← hc]; simp
        exact ⟨0, rfl, by simp [this]⟩
      | false =>
        rw [hc] at h
        obtain ⟨k, rfl, h3⟩ := findBorn_ok he' (show findBorn b es (Nat.succ n) = some j from h)
        have hne : ¬ ((Int.ofNat e.2.2) = b) := fun e' => by rw [(eqZ_iff _ _).2 e'] at hc; simp at hc
        have : ((e'.born : Int) == b) = false := by rw [h2]; simpa using hne
        exact ⟨k + 1, by omega, by simp [this, h3]⟩

theorem entryStore_ok (hm : MemR c m w) (hp : PcR c.ρ p) {t : TypeId} {mp st v : V} {MP S X : Value} (hmp : VR c mp MP) (hs : VR c st S) (hv : VR c v X) (h : (entryStoreM mp st v).gives c.ρ m p () m' q) :
    q = p ∧ ∃ w', Step c m w c m' w' ∧ (Instr.entryStore t MP S X).run P w = .ok () w' := by
  obtain ⟨i, rfl, h1⟩ := onMapM_gives (s := "entry") (show (onMap mp (fun i => onInt st (fun _ e => (litR e).thn fun b => (getMap i).thn fun es => entStore i es.1 es.2 v (findBorn b es.1 0)) (M.fail "entry")) (M.fail "entry")).gives c.ρ m p () m' q from h)
  obtain ⟨k, e, rfl, h2⟩ := onIntM_gives h1
  obtain ⟨b, p1, h3, h4⟩ := R.gives_thn h2
  obtain ⟨h5, rfl⟩ := litR_gives hp h3
  obtain ⟨es, p2, h6, h7⟩ := R.gives_thn h4
  obtain ⟨rfl, hb⟩ := getMap_gives h6
  obtain ⟨_, rfl⟩ := VR.map.1 hmp
  obtain ⟨rfl, _⟩ := VR.int.1 hs
  obtain ⟨_, es', h8, h9⟩ := hm.blk i _ hb
  have hg : (getObj (c.β i).1).run P w = .ok (.map es' es.2) w := run_getObj h8
  cases hf : findBorn b es.1 0 with
  | none => rw [hf] at h7; exact (M.gives_fail h7).elim
  | some j =>
    rw [hf] at h7
    obtain ⟨k', rfl, h10⟩ := findBorn_ok h9 hf
    obtain ⟨rfl, h11, h12⟩ := setMap_ok (P := P) hm hb (h9.setVal (0 + k') hv) (show (setMap i (setVal v es.1 (0 + k')) es.2).gives c.ρ m p2 () m' q from h7)
    rw [Nat.zero_add] at h11 h12
    refine ⟨rfl, _, h11, ?_⟩
    have h10' : es'.findIdx? (fun e => (e.born : Int) == b) = some k' := by
      rcases es' with ⟨l⟩
      simpa using h10
    simp [Instr.entryStore, hg, asInt, asIntOf, h5, h10', h12 _ rfl]
end ops

end Go.Sy
