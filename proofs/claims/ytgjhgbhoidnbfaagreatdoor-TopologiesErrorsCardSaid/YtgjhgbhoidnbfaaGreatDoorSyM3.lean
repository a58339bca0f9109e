/-
  What is defined and proved here: a part of the symbolic evaluator: SyMaps, SyBytes, SyEnv, SyOp, SyOp2, SyExt, SyOp3, SyRun, SyRun2, SyDraw3, SyDraw4, SyDraw5, SyRun3, SyRun4, SyTop.
  Conditions: none.
-/
import Derived.Test.YtgjhgbhoidnbfaaGreatDoorSyM2
import Derived.Calls
import Derived.Lib.Bytealg
import Derived.KernelRfl
import Derived.Tactics
import Derived.Scope
import Derived.Below
/-
  What is proved here: what the evaluator writes into maps is what the model writes.
  Conditions: none.
-/
namespace Go.Sy

section ops
variable {P : Program} {c : Cx} {m m' : Mem} {w : World} {p q : Pc}

def World.putObj (w : World) (r : Nat) (o : Obj) : World := { w with heap := w.heap.setIfInBounds r o }

theorem run_setObj {r : Nat} {es : Array MapEntry} {k : Nat} {o : Obj} (h : w.heap[r]? = some (.map es k)) : (setObj r o).run P w = .ok () (World.putObj w r o) := by
  simp [setObj, Sem.run, h, World.putObj]

theorem putObj_same {r : Nat} {o : Obj} (h : r < w.heap.size) : (World.putObj w r o).heap[r]? = some o := by
  simp [World.putObj, h]
theorem putObj_other {r k : Nat} {o : Obj} (h : k ≠ r) : (World.putObj w r o).heap[k]? = w.heap[k]? := by
  simp [World.putObj, Array.getElem?_setIfInBounds]
  intro e; exact absurd e.symm h

theorem getMap_gives {i : Nat} {a : List (V × V × Nat) × Nat} (h : (getMap i).gives c.ρ m p a q) : q = p ∧ m.tr.get i = some (.map a.1 a.2 true) := by
  obtain ⟨es, kk, wr, hb, h1⟩ := onMapB_gives (show T.out c.ρ (onMapB (m.tr.get i) (fun es c' wr => selB wr (T.ret (⟨(es, c'), p⟩ : Rp (List (V × V × Nat) × Nat))) (.fail "no map that may be written")) (T.fail "no map that may be written")) = some ⟨a, q⟩ from h)
  cases wr with
  | false => simp [selB, T.out] at h1
  | true =>
    simp only [selB, T.out, Option.some.injEq, Rp.mk.injEq] at h1
    obtain ⟨rfl, rfl⟩ := h1
    exact ⟨rfl, hb⟩

/-- a map, written -/
theorem setMap_ok (hm : MemR c m w) {i : Nat} {es es1 : List (V × V × Nat)} {k k1 : Nat} {es1' : Array MapEntry} (hb : m.tr.get i = some (.map es k true)) (he : EsR c es1 es1'.toList) (h : (setMap i es1 k1).gives c.ρ m p () m' q) :
    q = p ∧ Step c m w c m' (World.putObj w (c.β i).1 (.map es1' k1)) ∧ ∀ r : Nat, r = (c.β i).1 → (setObj r (.map es1' k1)).run P w = .ok () (World.putObj w (c.β i).1 (.map es1' k1)) := by
  obtain ⟨rfl, rfl⟩ := putBlk_gives (show (putBlk i (.map es1 k1 true)).gives c.ρ m p () m' q from h)
  obtain ⟨hi, hblk⟩ := hm.blk i _ hb
  obtain ⟨es', h1, h2⟩ := hblk
  have hlt : (c.β i).1 < w.heap.size := (Array.getElem?_eq_some_iff.1 h1).1
  refine ⟨rfl, Step.put hm hb rfl ⟨es1', putObj_same hlt, he⟩ (by simp [World.putObj]) (fun k hk => putObj_other hk) rfl rfl rfl, ?_⟩
  rintro r rfl
  exact run_setObj h1

theorem EsR.push {es : List (V × V × Nat)} {es' : Array MapEntry} {k v : V} {K X : Value} {b : Nat} (he : EsR c es es'.toList) (hk : VR c k K) (hv : VR c v X) : EsR c (es ++ [(k, v, b)]) (es'.push ⟨K, X, b⟩).toList := by
  have hl := he.1
  refine ⟨by simp at hl ⊢; omega, fun n e hn => ?_⟩
  rcases Nat.lt_or_ge n es.length with h | h
  · rw [List.getElem?_append_left h] at hn
    obtain ⟨e', h1, h2⟩ := he.2 n e hn
    refine ⟨e', ?_, h2⟩
    have : n < es'.toList.length := (List.getElem?_eq_some_iff.1 h1).1
    rw [Array.toList_push, List.getElem?_append_left this]; exact h1
  · rw [List.getElem?_append_right h] at hn
    have h0 : n - es.length = 0 := by
      rcases Nat.eq_zero_or_pos (n - es.length) with h' | h'
      · exact h'
      · rw [List.getElem?_eq_none (by simp; omega)] at hn; simp at hn
    rw [h0] at hn
    simp at hn; subst hn
    refine ⟨⟨K, X, b⟩, ?_, hk, hv, rfl⟩
    rw [Array.toList_push, List.getElem?_append_right (by omega)]
    have : n - es'.toList.length = 0 := by omega
    rw [this]; rfl

theorem setEntry_get (k v : V) : ∀ (es : List (V × V × Nat)) (j n : Nat), (setEntry k v es j).length = es.length ∧ (setEntry k v es j)[n]? = es[n]?.map fun e => if n = j then (k, v, e.2.2) else e
  | [], j, n => by simp [show setEntry k v [] j = [] from rfl]
  | e :: es, 0, n => by
    rw [show setEntry k v (e :: es) 0 = (k, v, e.2.2) :: es from rfl]
    refine ⟨by simp, ?_⟩
    cases n with
    | zero => simp
    | succ n => simp
  | e :: es, j + 1, n => by
    rw [show setEntry k v (e :: es) (j + 1) = e :: setEntry k v es j from rfl]
    refine ⟨by simp [(setEntry_get k v es j 0).1], ?_⟩
    cases n with
    | zero => simp
    | succ n => simp [(setEntry_get k v es j n).2]

theorem setVal_get (v : V) : ∀ (es : List (V × V × Nat)) (j n : Nat), (setVal v es j).length = es.length ∧ (setVal v es j)[n]? = es[n]?.map fun e => if n = j then (e.1, v, e.2.2) else e
  | [], j, n => by simp [show setVal v [] j = [] from rfl]
  | e :: es, 0, n => by
    rw [show setVal v (e :: es) 0 = (e.1, v, e.2.2) :: es from rfl]
    refine ⟨by simp, ?_⟩
    cases n with
    | zero => simp
    | succ n => simp
  | e :: es, j + 1, n => by
    rw [show setVal v (e :: es) (j + 1) = e :: setVal v es j from rfl]
    refine ⟨by simp [(setVal_get v es j 0).1], ?_⟩
    cases n with
    | zero => simp
    | succ n => simp [(setVal_get v es j n).2]

theorem delEntry_eq : ∀ (es : List (V × V × Nat)) (j : Nat), delEntry es j = es.eraseIdx j
  | [], _ => rfl
  | _ :: _, 0 => rfl
  | e :: es, j + 1 => by rw [show delEntry (e :: es) (j + 1) = e :: delEntry es j from rfl, delEntry_eq es j]; rfl

theorem EsR.setEntry {es : List (V × V × Nat)} {es' : Array MapEntry} {k v : V} {K X : Value} (j : Nat) (he : EsR c es es'.toList) (hk : VR c k K) (hv : VR c v X) :
    EsR c (setEntry k v es j) (es'.modify j fun e => { e with key := K, val := X }).toList := by
  have hl := he.1
  refine ⟨by rw [(setEntry_get k v es j 0).1]; simpa using hl, fun n e hn => ?_⟩
  rw [(setEntry_get k v es j n).2, Option.map_eq_some_iff] at hn
  obtain ⟨e0, h0, rfl⟩ := hn
  obtain ⟨e', h1, h2, h3, h4⟩ := he.2 n e0 h0
  rw [Array.toList_modify, List.getElem?_modify, h1]
  by_cases hj : n = j
  · subst hj
    exact ⟨{ e' with key := K, val := X }, by simp, by simp; exact hk, by simp; exact hv, by simpa using h4⟩
  · exact ⟨e', by simp [Ne.symm hj], by simp [hj]; exact h2, by simp [hj]; exact h3, by simpa [hj] using h4⟩

theorem EsR.setVal {es : List (V × V × Nat)} {es' : Array MapEntry} {v : V} {X : Value} (j : Nat) (he : EsR c es es'.toList) (hv : VR c v X) :
    EsR c (setVal v es j) (es'.modify j fun e => { e with val := X }).toList := by
  have hl := he.1
  refine ⟨by rw [(setVal_get v es j 0).1]; simpa using hl, fun n e hn => ?_⟩
  rw [(setVal_get v es j n).2, Option.map_eq_some_iff] at hn
  obtain ⟨e0, h0, rfl⟩ := hn
  obtain ⟨e', h1, h2, h3, h4⟩ := he.2 n e0 h0
  rw [Array.toList_modify, List.getElem?_modify, h1]
  by_cases hj : n = j
  · subst hj
    exact ⟨{ e' with val := X }, by simp, by simp; exact h2, by simp; exact hv, by simpa using h4⟩
  · exact ⟨e', by simp [Ne.symm hj], by simp [hj]; exact h2, by simp [hj]; exact h3, by simpa [hj] using h4⟩

theorem EsR.del {es : List (V × V × Nat)} {es' : Array MapEntry} (j : Nat) (he : EsR c es es'.toList) : EsR c (delEntry es j) (es'.eraseIdxIfInBounds j).toList := by
  have hl := he.1
  have : (es'.eraseIdxIfInBounds j).toList = es'.toList.eraseIdx j := by simp
  rw [this, delEntry_eq]
  refine ⟨by simp only [List.length_eraseIdx, hl], fun n e hn => ?_⟩
  rw [List.getElem?_eraseIdx] at hn
  rw [List.getElem?_eraseIdx]
  split at hn
  · obtain ⟨e', h1, h2⟩ := he.2 n e hn
    exact ⟨e', by rw [if_pos (by assumption)]; exact h1, h2⟩
  · obtain ⟨e', h1, h2⟩ := he.2 (n + 1) e hn
    exact ⟨e', by rw [if_neg (by assumption)]; exact h1, h2⟩

/-- a map that may be written, and a search in it -/
theorem mapFind_ok (hm : MemR c m w) (hp : PcR c.ρ p) {kt : TypeId} {i : Nat} {k : V} {K : Value} (hk : VR c k K) (hpl : keyOK P kt = true) {es : List (V × V × Nat)} {kk : Nat} {r : Option (Nat × V)} (hb : m.tr.get i = some (.map es kk true))
    (h : (findKey P kt k es 0).gives c.ρ m p r q) : PcR c.ρ q ∧ ∃ (es' : Array MapEntry) (r' : Option (Nat × Value)), w.heap[(c.β i).1]? = some (.map es' kk) ∧ EsR c es es'.toList ∧ (Instr.findKey kt K es'.toList).run P w = .ok r' w ∧ FoundR (plainK P kt) es es'.toList K 0 r r' := by
  obtain ⟨_, es', h1, h2⟩ := hm.blk i _ hb
  obtain ⟨h3, r', h4, h5⟩ := findAll_ok hm hp hpl hk h2 h
  exact ⟨h3, es', r', h1, h2, h4, h5⟩

theorem run_stays {old new : Value} (h : Instr.sameBits 10000 old new = true) : (Instr.keyThatStays old new).run P w = .ok new w := by
  simp [Instr.keyThatStays, h]

theorem mapUpdate_ok (hm : MemR c m w) (hp : PcR c.ρ p) {t : TypeId} {mp k v : V} {MP K X : Value} (hmp : VR c mp MP) (hk : VR c k K) (hv : VR c v X) (h : (mapUpdateM P t mp k v).gives c.ρ m p () m' q) :
    PcR c.ρ q ∧ ∃ w', Step c m w c m' w' ∧ (Instr.mapUpdate t MP K X).run P w = .ok () w' := by
  unfold mapUpdateM at h
  cases ha : mapOf P t with
  | none => rw [ha] at h; exact (M.gives_fail h).elim
  | some a =>
    rw [ha] at h
    obtain ⟨hu, hpl⟩ := mapOf_some ha
    obtain ⟨hfit, h⟩ := M.gives_if (show (selB (keyFit P a.1 k) (onMap mp (fun i => (getMap i).thn fun es => (findKey P a.1 k es.1 0).thn fun r => updFound (plainK P a.1) i es.1 es.2 k v r) (M.fail "map update")) (M.fail "map update the key")).gives c.ρ m p () m' q from h)
    obtain ⟨i, rfl, h1⟩ := onMapM_gives (s := "map update") h
    obtain ⟨es, p1, h2, h3⟩ := R.gives_thn h1
    obtain ⟨rfl, hb⟩ := getMap_gives h2
    obtain ⟨r, p2, h4, h5⟩ := R.gives_thn h3
    obtain ⟨hp2, es', r', h6, h7, h8, h9⟩ := mapFind_ok hm hp hk hpl hb h4
    obtain ⟨_, rfl⟩ := VR.map.1 hmp
    have hg : (getObj (c.β i).1).run P w = .ok (.map es' es.2) w := run_getObj h6
    cases r with
    | none =>
      have h9 : r' = none := h9
      subst h9
      obtain ⟨rfl, h10, h11⟩ := setMap_ok (P := P) hm hb (h7.push hk hv (b := es.2)) (show (setMap i (es.1 ++ [(k, v, es.2)]) (Nat.succ es.2)).gives c.ρ m p2 () m' q from h5)
      exact ⟨hp2, _, h10, by simpa [Instr.mapUpdate, run_und hu, hg, checkKey_ok hpl hk hfit, h8] using h11 _ rfl⟩
    | some b =>
      obtain ⟨j, e, e', rfl, h12, h13, rfl, h14⟩ := h9
      obtain ⟨hpk, h5⟩ := M.gives_if (show (selB (plainK P a.1) (setMap i (setEntry k v es.1 (0 + j)) es.2) (M.fail "map update there already")).gives c.ρ m p2 () m' q from h5)
      have h14 := h14 hpk
      obtain ⟨rfl, h10, h11⟩ := setMap_ok (P := P) hm hb (h7.setEntry (0 + j) hk hv) h5
      have h13 : es'[j]? = some e' := by simpa using h13
      refine ⟨hp2, _, h10, ?_⟩
      rw [Nat.zero_add] at h11
      simpa [Instr.mapUpdate, run_und hu, hg, checkKey_ok hpl hk hfit, h8, h13, run_stays h14] using h11 _ rfl

theorem delete_ok (hm : MemR c m w) (hp : PcR c.ρ p) {t ty : TypeId} {ts : Array TypeId} {xs : Array Value} {mp k v : V} {MP K : Value} (hts : ts[0]? = some t) (h0 : xs[0]? = some MP) (h1' : xs[1]? = some K) (hmp : VR c mp MP) (hk : VR c k K)
    (h : (deleteM P t mp k).gives c.ρ m p v m' q) : PcR c.ρ q ∧ EfOK P c m w m' v (Builtin.delete_ ts ty xs) := by
  unfold deleteM at h
  cases ha : mapOf P t with
  | none => rw [ha] at h; exact (M.gives_fail h).elim
  | some a =>
    rw [ha] at h
    obtain ⟨hu, hpl⟩ := mapOf_some ha
    obtain ⟨hfit, hd⟩ := M.gives_if (show (selB (keyFit P a.1 k) (V.rec (motive_1 := fun _ => M V) (motive_2 := fun _ => Unit) (fun _ => M.fail "delete") (fun _ _ => M.fail "delete") (fun _ => M.fail "delete") (M.fail "delete") (fun _ _ => M.fail "delete") (M.fail "delete") (fun _ _ _ _ => M.fail "delete") (M.pure (.tuple [])) (fun i => (getMap i).thn fun es => (findKey P a.1 k es.1 0).thn fun r => delFound i es.1 es.2 r) (fun _ _ _ _ _ => M.fail "delete") (M.fail "delete") (fun _ _ _ => M.fail "delete") (M.fail "delete") (fun _ _ => M.fail "delete") (fun _ _ => M.fail "delete") (M.fail "delete") (fun _ _ _ => M.fail "delete") (fun _ _ _ _ => M.fail "delete") (fun _ _ => M.fail "delete") Unit.unit (fun _ _ _ _ => Unit.unit) mp) (M.fail "delete the key")).gives c.ρ m p v m' q from h)
    clear h
    have h := hd
    clear hd
    have hnil : VR c (V.tuple []) (.tuple #[]) := VR.tuple.2 ⟨#[], rfl, VRs.nil⟩
    cases mp <;> try exact (M.gives_fail (s := "delete") h).elim
    case nilMap =>
      obtain ⟨rfl, rfl, rfl⟩ := M.gives_pure (show (M.pure (V.tuple [])).gives c.ρ m p v m' q from h)
      rw [VR.nilMap] at hmp; subst hmp
      exact ⟨hp, c, w, .tuple #[], Step.refl hm, by simp [Builtin.delete_, hts, h0, h1', run_und hu, checkKey_ok hpl hk hfit], hnil⟩
    case map i =>
      have h1 : ((getMap i).thn fun es => (findKey P a.1 k es.1 0).thn fun r => delFound i es.1 es.2 r).gives c.ρ m p v m' q := h
      obtain ⟨es, p1, h2, h3⟩ := R.gives_thn h1
      obtain ⟨rfl, hb⟩ := getMap_gives h2
      obtain ⟨r, p2, h4, h5⟩ := R.gives_thn h3
      obtain ⟨hp2, es', r', h6, h7, h8, h9⟩ := mapFind_ok hm hp hk hpl hb h4
      obtain ⟨_, rfl⟩ := VR.map.1 hmp
      have hg : (getObj (c.β i).1).run P w = .ok (.map es' es.2) w := run_getObj h6
      have hlt : (c.β i).1 < w.heap.size := (Array.getElem?_eq_some_iff.1 h6).1
      cases r with
      | none =>
        have h9 : r' = none := h9
        subst h9
        obtain ⟨rfl, rfl, rfl⟩ := M.gives_pure (show (M.pure (V.tuple [])).gives c.ρ m p2 v m' q from h5)
        have hself : World.putObj w (c.β i).1 (.map es' es.2) = w := by
          unfold World.putObj
          congr 1
          apply Array.ext_getElem?
          intro j
          rw [Array.getElem?_setIfInBounds]
          split
          · rename_i e; subst e; exact h6.symm
          · rfl
        have hrun : (setObj (c.β i).1 (.map es' es.2)).run P w = .ok () w := by rw [run_setObj h6, hself]
        exact ⟨hp2, c, w, .tuple #[], Step.refl hm, by simp [Builtin.delete_, hts, h0, h1', run_und hu, checkKey_ok hpl hk hfit, hg, h8, hrun], hnil⟩
      | some b =>
        obtain ⟨j, e, e', rfl, h12, h13, rfl, h14⟩ := h9
        obtain ⟨_, m1, p3, h15, h16⟩ := M.gives_bnd (show ((setMap i (delEntry es.1 (0 + j)) es.2).bnd fun _ => M.pure (V.tuple [])).gives c.ρ m p2 v m' q from h5)
        obtain ⟨rfl, rfl, rfl⟩ := M.gives_pure h16
        obtain ⟨rfl, h10, h11⟩ := setMap_ok (P := P) hm hb (h7.del (0 + j)) h15
        rw [Nat.zero_add] at h10 h11
        exact ⟨hp2, c, _, .tuple #[], h10, by simp [Builtin.delete_, hts, h0, h1', run_und hu, checkKey_ok hpl hk hfit, hg, h8, h11 _ rfl], hnil⟩

theorem bornAt_ok {es : List (V × V × Nat)} {es' : List MapEntry} {j : Nat} {e : V × V × Nat} {e' : MapEntry} (he : EsR c es es') (h : es[j]? = some e) (h' : es'[j]? = some e') : bornAt es j = e'.born := by
  obtain ⟨e1, h1, _, _, h2⟩ := he.2 j e h
  rw [h'] at h1; simp at h1; subst h1
  unfold bornAt
  rw [nth_eq, h]; exact h2.symm

theorem mapEntry_ok (hm : MemR c m w) (hp : PcR c.ρ p) {t : TypeId} {mp k v : V} {MP K : Value} (hmp : VR c mp MP) (hk : VR c k K) (h : (mapEntryM P t mp k).gives c.ρ m p v m' q) :
    PcR c.ρ q ∧ EfOK P c m w m' v (Instr.mapEntry t MP K) := by
  unfold mapEntryM at h
  cases ha : mapOf P t with
  | none => rw [ha] at h; exact (M.gives_fail h).elim
  | some a =>
    rw [ha] at h
    obtain ⟨hu, hpl⟩ := mapOf_some ha
    obtain ⟨hfit, h⟩ := M.gives_if (show (selB (keyFit P a.1 k) (onMap mp (fun i => (getMap i).thn fun es => (findKey P a.1 k es.1 0).thn fun r => entFound (plainK P a.1) P a.2 i es.1 es.2 k r) (M.fail "map entry")) (M.fail "map entry the key")).gives c.ρ m p v m' q from h)
    obtain ⟨i, rfl, h1⟩ := onMapM_gives (s := "map entry") h
    obtain ⟨es, p1, h2, h3⟩ := R.gives_thn h1
    obtain ⟨rfl, hb⟩ := getMap_gives h2
    obtain ⟨r, p2, h4, h5⟩ := R.gives_thn h3
    obtain ⟨hp2, es', r', h6, h7, h8, h9⟩ := mapFind_ok hm hp hk hpl hb h4
    obtain ⟨_, rfl⟩ := VR.map.1 hmp
    have hg : (getObj (c.β i).1).run P w = .ok (.map es' es.2) w := run_getObj h6
    cases r with
    | none =>
      have h9 : r' = none := h9
      subst h9
      obtain ⟨z, p3, h10, h11⟩ := R.gives_thn (show ((R.opt "zero" (zeroOf P a.2)).thn fun z => (setMap i (es.1 ++ [(k, z, es.2)]) (Nat.succ es.2)).bnd fun _ => (lenN es.2).thn fun n => M.pure (V.tuple [z, n])).gives c.ρ m p2 v m' q from h5)
      obtain ⟨h12, rfl⟩ := R.gives_opt h10
      obtain ⟨i', zv, _, _, h13, h14⟩ := zeroOf_ok h12
      obtain ⟨_, m1, p4, h15, h16⟩ := M.gives_bnd h11
      obtain ⟨n, p5, h17, h18⟩ := R.gives_thn h16
      obtain ⟨rfl, rfl, rfl⟩ := M.gives_pure h18
      obtain ⟨rfl, h19⟩ := lenN_ok h17
      obtain ⟨rfl, h20, h21⟩ := setMap_ok (P := P) hm hb (h7.push hk (h13 c) (b := es.2)) h15
      exact ⟨hp2, c, _, .tuple #[zv, goInt es.2], h20, by simp [Instr.mapEntry, run_und hu, hg, checkKey_ok hpl hk hfit, h8, h14, h21 _ rfl], VR.tuple.2 ⟨_, rfl, VRs.cons (h13 c) (VRs.cons h19 VRs.nil)⟩⟩
    | some b =>
      obtain ⟨x, hx, hxv⟩ := h9.val h7
      obtain ⟨j, e, e', rfl, h12, h13, rfl, h14⟩ := h9
      have hxe : x = e'.val := by simpa using hx.symm
      subst hxe
      obtain ⟨hpk, h5⟩ := M.gives_if (show (selB (plainK P a.1) ((setMap i (setEntry k e.2.1 es.1 (0 + j)) es.2).bnd fun _ => (lenN (bornAt es.1 (0 + j))).thn fun n => M.pure (V.tuple [e.2.1, n])) (M.fail "map entry there already")).gives c.ρ m p2 v m' q from h5)
      have h14 := h14 hpk
      obtain ⟨_, m1, p4, h15, h16⟩ := M.gives_bnd h5
      obtain ⟨n, p5, h17, h18⟩ := R.gives_thn h16
      obtain ⟨rfl, rfl, rfl⟩ := M.gives_pure h18
      obtain ⟨rfl, h19⟩ := lenN_ok h17
      rw [Nat.zero_add] at h15 h19
      rw [bornAt_ok h7 h12 h13] at h19
      have h13' : es'[j]? = some e' := by simpa using h13
      have hmod : (es'.modify j fun e => { e with key := K, val := e'.val }) = es'.modify j fun e => { e with key := K } := by
        apply Array.ext_getElem?
        intro n
        simp only [Array.getElem?_modify]
        split
        · rename_i hn; subst hn; rw [h13']; rfl
        · rfl
      obtain ⟨rfl, h20, h21⟩ := setMap_ok (P := P) hm hb (h7.setEntry j hk hxv) h15
      rw [hmod] at h20 h21
      exact ⟨hp2, c, _, .tuple #[e'.val, goInt e'.born], h20, by simp [Instr.mapEntry, run_und hu, hg, checkKey_ok hpl hk hfit, h8, h13', run_stays h14, h21 _ rfl], VR.tuple.2 ⟨_, rfl, VRs.cons hxv (VRs.cons h19 VRs.nil)⟩⟩

theorem findBorn_ok {b : Int} : ∀ {es : List (V × V × Nat)} {es' : List MapEntry} {n j : Nat}, EsR c es es' → findBorn b es n = some j → ∃ k, j = n + k ∧ es'.findIdx? (fun e => (e.born : Int) == b) = some k
  | [], es', n, j, _, h => by
    have h : none = some j := h
    simp at h
  | e :: es, es', n, j, he, h => by
    cases es' with
    | nil => exact absurd he.1 (by simp)
    | cons e' es' =>
      obtain ⟨e1, h1, _, _, h2⟩ := he.2 0 e (by simp)
      simp at h1; subst h1
      have he' : EsR c es es' := ⟨by simpa using he.1, fun j u hu => by simpa using he.2 (j + 1) u (by simpa using hu)⟩
      have h : selB (eqZ (.ofNat e.2.2) b) (some n) (findBorn b es (Nat.succ n)) = some j := h
      rw [List.findIdx?_cons]
      cases hc : eqZ (.ofNat e.2.2) b with
      | true =>
        rw [hc] at h
        have h : some n = some j := h
        simp at h; subst h
        rw [eqZ_iff] at hc
        have : ((e'.born : Int) == b) = true := by rw [h2, ← hc]; simp
        exact ⟨0, rfl, by simp [this]⟩
      | false =>
        rw [hc] at h
        obtain ⟨k, rfl, h3⟩ := findBorn_ok he' (show findBorn b es (Nat.succ n) = some j from h)
        have hne : ¬ ((Int.ofNat e.2.2) = b) := fun e' => by rw [(eqZ_iff _ _).2 e'] at hc; simp at hc
        have : ((e'.born : Int) == b) = false := by rw [h2]; simpa using hne
        exact ⟨k + 1, by omega, by simp [this, h3]⟩

theorem entryStore_ok (hm : MemR c m w) (hp : PcR c.ρ p) {t : TypeId} {mp st v : V} {MP S X : Value} (hmp : VR c mp MP) (hs : VR c st S) (hv : VR c v X) (h : (entryStoreM mp st v).gives c.ρ m p () m' q) :
    q = p ∧ ∃ w', Step c m w c m' w' ∧ (Instr.entryStore t MP S X).run P w = .ok () w' := by
  obtain ⟨i, rfl, h1⟩ := onMapM_gives (s := "entry") (show (onMap mp (fun i => onInt st (fun _ e => (litR e).thn fun b => (getMap i).thn fun es => entStore i es.1 es.2 v (findBorn b es.1 0)) (M.fail "entry")) (M.fail "entry")).gives c.ρ m p () m' q from h)
  obtain ⟨k, e, rfl, h2⟩ := onIntM_gives h1
  obtain ⟨b, p1, h3, h4⟩ := R.gives_thn h2
  obtain ⟨h5, rfl⟩ := litR_gives hp h3
  obtain ⟨es, p2, h6, h7⟩ := R.gives_thn h4
  obtain ⟨rfl, hb⟩ := getMap_gives h6
  obtain ⟨_, rfl⟩ := VR.map.1 hmp
  obtain ⟨rfl, _⟩ := VR.int.1 hs
  obtain ⟨_, es', h8, h9⟩ := hm.blk i _ hb
  have hg : (getObj (c.β i).1).run P w = .ok (.map es' es.2) w := run_getObj h8
  cases hf : findBorn b es.1 0 with
  | none => rw [hf] at h7; exact (M.gives_fail h7).elim
  | some j =>
    rw [hf] at h7
    obtain ⟨k', rfl, h10⟩ := findBorn_ok h9 hf
    obtain ⟨rfl, h11, h12⟩ := setMap_ok (P := P) hm hb (h9.setVal (0 + k') hv) (show (setMap i (setVal v es.1 (0 + k')) es.2).gives c.ρ m p2 () m' q from h7)
    rw [Nat.zero_add] at h11 h12
    refine ⟨rfl, _, h11, ?_⟩
    have h10' : es'.findIdx? (fun e => (e.born : Int) == b) = some k' := by
      rcases es' with ⟨l⟩
      simpa using h10
    simp [Instr.entryStore, hg, asInt, asIntOf, h5, h10', h12 _ rfl]
end ops

end Go.Sy

/-
  What is proved here: the evaluator's slice of a string's bytes is that of the model.
  Conditions: none.
-/
namespace Go.Sy

/-- a string's bytes, and zeros behind them -/
def byteCells (s : ByteArray) (cap : Nat) : Array Value := s.data.map (fun b : UInt8 => Value.int .u8 b.toNat) ++ Array.replicate (cap - s.size) (Value.int .u8 0)

section ops
variable {P : Program} {c : Cx} {m m' : Mem} {w : World} {p q : Pc}

theorem freeze_alloc (cs : Array Value) (e : TypeId) : (w.alloc (.cells cs e)).freeze ⟨w.heap.size, cs.size, none⟩ 1 = w.alloc (.cells cs e (cs.size, cs.size + 1)) := by
  unfold World.freeze
  rw [if_neg (by decide)]
  have : (w.alloc (.cells cs e)).heap = w.heap.push (.cells cs e) := rfl
  unfold World.alloc
  congr 1
  apply Array.ext_getElem?
  intro j
  rw [Array.getElem?_modify, Array.getElem?_push, Array.getElem?_push]
  by_cases h : j = w.heap.size
  · subst h; simp
  · have h' : ¬ (w.heap.size = j) := fun e => h e.symm
    simp [h, h']

theorem bytesM_ok (hm : MemR c m w) {src dst : TypeId} {x v : V} {X : Value} (hx : VR c x X) (hs : isStrT P src = true) (h : (bytesM P dst x).gives c.ρ m p v m' q) : q = p ∧ EfOK P c m w m' v (convert src dst X) := by
  unfold bytesM at h
  cases ha : slcOf P dst with
  | none => rw [ha] at h; exact (M.gives_fail h).elim
  | some a =>
    rw [ha] at h
    obtain ⟨hu, hsz⟩ := slcOf_some ha
    obtain ⟨h1, h2⟩ := M.gives_if (show (selB (andB (isByteT P a.1) (Nat.beq a.2 1)) _ (M.fail "convert")).gives c.ρ m p v m' q from h)
    obtain ⟨h3, _⟩ := andB_iff.1 h1
    have hb := isByteT_iff h3
    obtain ⟨l, rfl, h4⟩ := onStrM_gives h2
    obtain ⟨s, rfl, hbr⟩ := VR.str.1 hx
    obtain ⟨tk, m1, p1, h5, h6⟩ := M.gives_bnd h4
    obtain ⟨rfl, rfl, rfl⟩ := newTok_gives h5
    obtain ⟨i, m2, p2, h7, h8⟩ := M.gives_bnd h6
    obtain ⟨rfl, rfl, rfl⟩ := newBlk_gives h7
    obtain ⟨rfl, rfl, rfl⟩ := M.gives_pure h8
    have hlen : lenL l = s.size := by rw [lenL_eq, ← hbr.length]; simp
    have hss : s.data.size = s.size := rfl
    have hge : s.size ≤ grownCap w s.size 0 a.1 := grownCap_ge w s.size 0 a.1
    have s1 := Step.drew hm
    have s2 := Step.tok s1.rel (lb := lenL l) (n := grownCap w s.size 0 a.1) (by rw [hlen]; exact hge)
    have hnt : (c.addT (grownCap w s.size 0 a.1)).γ c.nt = grownCap w s.size 0 a.1 := if_pos rfl
    have hcs : (byteCells s (grownCap w s.size 0 a.1)).size = grownCap w s.size 0 a.1 := by
      unfold byteCells; rw [Array.size_append, Array.size_map, Array.size_replicate, hss]; omega
    have s3 := Step.new s2.rel (b := .cells (l.map (.int .u8)) true false (some (m.nt, 1)))
      (o := .cells (byteCells s (grownCap w s.size 0 a.1)) a.1 (grownCap w s.size 0 a.1, grownCap w s.size 0 a.1 + 1)) (by
        refine ⟨_, a.1, _, heap_push_new w.drew _, fun j v hj => ?_, fun e => absurd e (by simp), fun _ => .inr (Nat.le_of_eq hcs), ?_, ?_⟩
        · rw [List.getElem?_map, Option.map_eq_some_iff] at hj
          obtain ⟨e, he, rfl⟩ := hj
          obtain ⟨b, hb', hd⟩ := hbr.get he
          have hb' : s.data[j]? = some b := by simpa using hb'
          have hjs : j < s.data.size := (Array.getElem?_eq_some_iff.1 hb').1
          refine ⟨.int .u8 b.toNat, ?_, VR.int.2 ⟨?_, ?_⟩⟩
          · show (byteCells s (grownCap w s.size 0 a.1))[0 + j]? = _
            unfold byteCells
            rw [Nat.zero_add, Array.getElem?_append_left (by rw [Array.size_map]; exact hjs), Array.getElem?_map, hb']; rfl
          · show _ = Value.int .u8 (e.den c.ρ); rw [hd]
          · show kMin .u8 ≤ e.den c.ρ ∧ e.den c.ρ ≤ kMax .u8
            rw [hd]; have := b.toNat_lt
            exact ⟨by simp [kMin, IntKind.signed], by simp [kMax, limN]; omega⟩
        · show m.nt < c.nt + 1; rw [hm.nt]; exact Nat.lt_succ_self _
        · show 0 + (c.addT (grownCap w s.size 0 a.1)).γ m.nt * 1 ≤ _
          rw [← hm.nt, hnt, hcs]; omega)
    refine ⟨rfl, _, _, .slice (some ⟨w.heap.size, 0, none⟩) s.size (grownCap w s.size 0 a.1), (s1.trans s2).trans s3, ?_, VR.slice.2 ⟨?_, grownCap w s.size 0 a.1, ⟨?_, ?_⟩, by rw [hlen]; exact hge, ?_⟩⟩
    · have hf := freeze_alloc (w := w.drew) (byteCells s (grownCap w s.size 0 a.1)) a.1
      rw [hcs] at hf
      rw [← hf]
      have hsh : (w.drew.alloc (.cells (byteCells s (grownCap w s.size 0 a.1)) a.1)).shape? w.heap.size = some (a.1, grownCap w s.size 0 a.1) := by
        unfold World.shape?
        rw [show w.heap.size = w.drew.heap.size from rfl, heap_push_new w.drew]
        show some (a.1, (byteCells s (grownCap w s.size 0 a.1)).size) = _
        rw [hcs]
      simp [convert, run_und (isStrT_iff hs), run_und hu, run_und hb, Conv.stringToBytes, Question.forced, newRow, markStringish]
      have e1 : (Question.appendCap s.size 0 a.1).cut (w.tape w.drawn (Question.appendCap s.size 0 a.1)) = grownCap w s.size 0 a.1 := rfl
      have e2 : Array.map (fun b : UInt8 => Value.int IntKind.u8 (b.toNat : Int)) s.data ++ Array.replicate (grownCap w s.size 0 a.1 - s.size) (Value.int IntKind.u8 0) = byteCells s (grownCap w s.size 0 a.1) := rfl
      rw [e1, e2, hsh]
      simp
    · show m.nb < c.nb + 1; rw [hm.nb]; exact Nat.lt_succ_self _
    · show m.nt < c.nt + 1; rw [hm.nt]; exact Nat.lt_succ_self _
    · show grownCap w s.size 0 a.1 + 0 = (c.addT (grownCap w s.size 0 a.1)).γ m.nt
      rw [← hm.nt, hnt]; rfl
    · unfold Cx.ad
      rw [← hm.nb, hlen]
      show _ = Value.slice (some ⟨(((c.addT (grownCap w s.size 0 a.1)).addB w.drew).β (c.addT (grownCap w s.size 0 a.1)).nb).1, (((c.addT (grownCap w s.size 0 a.1)).addB w.drew).β (c.addT (grownCap w s.size 0 a.1)).nb).2 + 0, none⟩) _ _
      rw [Cx.addB_new]; rfl

theorem markT_iff {s d : TypeId} (h : markT P s d = true) : s = d ∧ isStrT P s = false ∧ ∃ e, P.underlying s = some (.slice e) ∧ P.underlying e = some (.int .u8) := by
  unfold markT at h
  rw [Bool.and_eq_true, Bool.and_eq_true, beq_iff] at h
  obtain ⟨⟨h1, h2⟩, h3⟩ := h
  refine ⟨h1, by simpa using h2, ?_⟩
  split at h3
  · rename_i e hu
    exact ⟨e, hu, isByteT_iff h3⟩
  · exact nomatch h3

theorem markM_ok (hm : MemR c m w) {s d : TypeId} {x v : V} {X : Value} (hx : VR c x X) (hmk : markT P s d = true) (h : (markM x).gives c.ρ m p v m' q) : q = p ∧ EfOK P c m w m' v (convert s d X) := by
  obtain ⟨rfl, _, e, hu, hb⟩ := markT_iff hmk
  cases x <;> try exact (M.gives_fail (s := "mark") h).elim
  case slice i o n cp =>
    obtain ⟨l, wr, pl, g, hg, h1⟩ := onCellsM_gives (show T.out c.ρ (onCells (m.tr.get i) (fun l wr _ g => selB wr ((putBlk i (.cells l true false g)).bnd fun _ => M.pure (V.slice i o n cp)) (M.fail "mark") m p) (.fail "mark")) = some ⟨v, m', q⟩ from h)
    obtain ⟨hw, h2⟩ := M.gives_if (show (selB wr ((putBlk i (.cells l true false g)).bnd fun _ => M.pure (V.slice i o n cp)) (M.fail "mark")).gives c.ρ m p v m' q from h1)
    subst hw
    obtain ⟨_, m1, p1, h3, h4⟩ := M.gives_bnd h2
    obtain ⟨rfl, rfl⟩ := putBlk_gives h3
    obtain ⟨rfl, rfl, rfl⟩ := M.gives_pure h4
    obtain ⟨_, cs, t, fr, k1, k2, _, k4, k5⟩ := hm.blk i _ hg
    obtain ⟨hi, cap, hc, hle, rfl⟩ := VR.slice.1 hx
    have hfr := k4 rfl
    have hcell : ((w.freeze ⟨(c.β i).1, cs.size, none⟩ 1).heap)[(c.β i).1]? = some (.cells cs t (if fr.1 == fr.2 then (cs.size, cs.size + 1) else (min fr.1 cs.size, max fr.2 (cs.size + 1)))) := by
      unfold World.freeze
      rw [if_neg (by decide)]
      simp only [Array.getElem?_modify, if_true, k1, Option.map_some]
    have s1 : Step c m w c ⟨m.tr.set i (.cells l true false g), m.nb, m.tok, m.nt⟩ (w.freeze ⟨(c.β i).1, cs.size, none⟩ 1) := by
      refine Step.put hm hg rfl ⟨cs, t, _, hcell, k2, fun e => absurd e (by simp), fun _ => .inr ?_, k5⟩ ?_ ?_ ?_ ?_ ?_
      · rcases hfr with rfl | hfr
        · simp
        · split
          · exact Nat.le_refl _
          · show cs.size ≤ min fr.1 cs.size
            omega
      · unfold World.freeze; rw [if_neg (by decide)]; simp
      · intro k hk
        unfold World.freeze
        rw [if_neg (by decide)]
        simp only [Array.getElem?_modify]
        rw [if_neg (fun e => hk e.symm)]
      all_goals (unfold World.freeze; rw [if_neg (by decide)])
    refine ⟨rfl, c, _, _, s1, ?_, hx⟩
    have hsh : w.shape? (c.β i).1 = some (t, cs.size) := by
      unfold World.shape?
      rw [k1]
    have hblk : (c.ad i o).block = (c.β i).1 := rfl
    simp [convert, run_und hu, run_und hb, markStringish, hblk, hsh]
end ops

end Go.Sy

/-
  What is proved here: the evaluator's slots and operands; an operation that reads, or makes a block, does what the model's does.
  Conditions: none.
-/
namespace Go.Sy

/-- the globals' blocks have their own numbers -/
def GlobR (c : Cx) : Prop := 4096 ≤ c.nb ∧ ∀ i, i < 4096 → c.β i = (i, 0)

theorem GlobR.mono {c c' : Cx} (h : c.le c') (hg : GlobR c) : GlobR c' :=
  ⟨Nat.le_trans hg.1 h.nb, fun i hi => (h.β i (Nat.lt_of_lt_of_le hi hg.1)).trans (hg.2 i hi)⟩

/-- the slots -/
structure EnvR (c : Cx) (n : Nat) (env : Env) (a : Act) : Prop where
  size : a.tmps.size = n
  slot : ∀ j, VR c (env j) (a.tmps.getD j undef)
  glob : GlobR c

theorem EnvR.mono {c c' : Cx} {n : Nat} {env : Env} {a : Act} (h : c.le c') (he : EnvR c n env a) : EnvR c' n env a :=
  ⟨he.size, fun j => (he.slot j).mono h, he.glob.mono h⟩

section ops
variable {P : Program} {c : Cx} {m m' : Mem} {w : World} {p q : Pc} {n : Nat} {env : Env} {a : Act}

theorem opd_ok (he : EnvR c n env a) (x : Operand) : VR c (opd x env) (a.eval x) := by
  cases x with
  | tmp t => exact he.slot t
  | const v => exact constV_ok v
  | global g =>
    refine (?_ : VR c (selB (Nat.blt g 4096) (V.ptr g 0) .bad) (.pointer (some ⟨g, 0, none⟩)))
    cases hg : Nat.blt g 4096 with
    | false => exact VR.bad
    | true =>
      rw [blt_iff] at hg
      refine VR.ptr.2 ⟨Nat.lt_of_lt_of_le hg he.glob.1, ?_⟩
      unfold Cx.ad
      rw [he.glob.2 g hg]
  | func f => exact VR.func.2 ⟨#[], #[], rfl, VRs.nil, VRs.nil⟩

theorem opds_ok (he : EnvR c n env a) : ∀ (l : List Operand), VRs c (opds l env) (l.map a.eval)
  | [] => VRs.nil
  | x :: l => VRs.cons (opd_ok he x) (opds_ok he l)

theorem optV_ok (he : EnvR c n env a) (x : Option Operand) : OptR c (optV x env) (x.map a.eval) := by
  cases x with
  | none => rfl
  | some x => exact ⟨_, rfl, opd_ok he x⟩

theorem partsV_ok (he : EnvR c n env a) : ∀ (l : List (Nat × Operand)), PartsR c (partsV l env) (l.map fun x => (x.1, a.eval x.2))
  | [] => rfl
  | x :: l => ⟨_, _, rfl, rfl, opd_ok he x.2, partsV_ok he l⟩

theorem Act.put_tmps (a : Act) (d : Nat) (v : Value) : (a.put (some d) v).tmps = a.tmps.setIfInBounds d v := rfl

theorem put_ok (he : EnvR c n env a) {d : Nat} (hd : d < n) {v : V} {x : Value} (hv : VR c v x) : EnvR c n (env.put d v) (a.put (some d) x) := by
  refine ⟨by rw [Act.put_tmps]; simpa using he.size, fun j => ?_, he.glob⟩
  rw [Act.put_tmps]
  show VR c (Bool.rec (env j) v (Nat.beq j d)) _
  have hs := he.size
  cases hj : Nat.beq j d with
  | true =>
    rw [beq_iff] at hj; subst hj
    have : (a.tmps.setIfInBounds j x).getD j undef = x := by simp [Array.getD, hs, hd]
    rw [this]; exact hv
  | false =>
    rw [beq_false] at hj
    have : (a.tmps.setIfInBounds d x).getD j undef = a.tmps.getD j undef := by
      simp only [Array.getD_eq_getD_getElem?, Array.getElem?_setIfInBounds, if_neg (Ne.symm hj)]
    rw [this]; exact he.slot j

/-- into the slot, if there is one -/
theorem putM_ok (hm : MemR c m w) (he : EnvR c n env a) {d : Option Nat} {v : V} {x : Value} {env' : Env} (hv : VR c v x) (h : (putM d n env v).gives c.ρ m p env' m' q) :
    q = p ∧ m' = m ∧ EnvR c n env' (a.put d x) := by
  have _ := hm
  cases d with
  | none =>
    obtain ⟨rfl, rfl, rfl⟩ := M.gives_pure (show (M.pure env).gives c.ρ m p env' m' q from h)
    exact ⟨rfl, rfl, he⟩
  | some d =>
    obtain ⟨h1, h2⟩ := M.gives_if (show (selB (Nat.blt d n) (M.pure (env.put d v)) (M.fail "a slot beyond the frame")).gives c.ρ m p env' m' q from h)
    obtain ⟨rfl, rfl, rfl⟩ := M.gives_pure h2
    exact ⟨rfl, rfl, put_ok he ((blt_iff _ _).1 h1) hv⟩

theorem opds_arr (he : EnvR c n env a) (xs : Array Operand) : VRs c (opds xs.toList env) (xs.map a.eval).toList := by
  rw [Array.toList_map]; exact opds_ok he xs.toList

theorem parts_arr (he : EnvR c n env a) (ps : Array (Nat × Operand)) : PartsR c (partsV ps.toList env) (ps.map fun (i, x) => (i, a.eval x)).toList := by
  rw [Array.toList_map]; exact partsV_ok he ps.toList

theorem on1_gives {α : Type} {l : List V} {f : V → R α} {s : String} {v : α} (h : (on1 l f (R.fail s)).gives c.ρ m p v q) : ∃ x r, l = x :: r ∧ (f x).gives c.ρ m p v q := by
  cases l with
  | nil => exact (R.gives_fail (s := s) h).elim
  | cons x r => exact ⟨x, r, rfl, h⟩
theorem onT_gives {α : Type} {l : List TypeId} {f : TypeId → List TypeId → R α} {s : String} {v : α} (h : (onT l f (R.fail s)).gives c.ρ m p v q) : ∃ x r, l = x :: r ∧ (f x r).gives c.ρ m p v q := by
  cases l with
  | nil => exact (R.gives_fail (s := s) h).elim
  | cons x r => exact ⟨x, r, rfl, h⟩
theorem on2_gives {α : Type} {l : List V} {f : V → V → M α} {s : String} {v : α} (h : (on2 l f (M.fail s)).gives c.ρ m p v m' q) : ∃ x y r, l = x :: y :: r ∧ (f x y).gives c.ρ m p v m' q := by
  cases l with
  | nil => exact (M.gives_fail (s := s) h).elim
  | cons x r => cases r with
    | nil => exact (M.gives_fail (s := s) h).elim
    | cons y r => exact ⟨x, y, r, rfl, h⟩
theorem onTM_gives {α : Type} {l : List TypeId} {f : TypeId → List TypeId → M α} {s : String} {v : α} (h : (onT l f (M.fail s)).gives c.ρ m p v m' q) : ∃ x r, l = x :: r ∧ (f x r).gives c.ρ m p v m' q := by
  cases l with
  | nil => exact (M.gives_fail (s := s) h).elim
  | cons x r => exact ⟨x, r, rfl, h⟩

theorem head_arr {l : List V} {xs : Array Value} {x : V} {r : List V} (h : VRs c l xs.toList) (hl : l = x :: r) : ∃ X, xs[0]? = some X ∧ VR c x X := by
  subst hl
  obtain ⟨X, ys, hxs, h1, _⟩ := VRs.cons_iff.1 h
  exact ⟨X, by rw [← Array.getElem?_toList, hxs]; rfl, h1⟩
theorem head2_arr {l : List V} {xs : Array Value} {x y : V} {r : List V} (h : VRs c l xs.toList) (hl : l = x :: y :: r) : ∃ X Y, xs[0]? = some X ∧ xs[1]? = some Y ∧ VR c x X ∧ VR c y Y := by
  subst hl
  obtain ⟨X, ys, hxs, h1, h2⟩ := VRs.cons_iff.1 h
  obtain ⟨Y, zs, hys, h3, _⟩ := VRs.cons_iff.1 h2
  subst hys
  exact ⟨X, Y, by rw [← Array.getElem?_toList, hxs]; rfl, by rw [← Array.getElem?_toList, hxs]; rfl, h1, h3⟩
end ops

end Go.Sy

/-
  What is proved here: an operation that reads, or makes a block, does what the model's does.
  Conditions: none.
-/
namespace Go.Sy

section ops
variable {P : Program} {c : Cx} {m m' : Mem} {w : World} {p q : Pc} {n : Nat} {env : Env} {a : Act}

theorem Kd.al_rd {f : R (Blk × Shp)} {g : R V} (h : Kd.al f = .rd g) : False := nomatch h
theorem Kd.ef_rd {f : M V} {g : R V} (h : Kd.ef f = .rd g) : False := nomatch h

/-- the run of an operation that gives a value -/
def GivesR (P : Program) (c : Cx) (w : World) (o : Oper) (a : Act) (v : V) : Prop := ∃ z, (execOp a.eval o).run P w = .ok (.value z) w ∧ VR c v z

theorem rd_ok (hm : MemR c m w) (hp : PcR c.ρ p) (he : EnvR c n env a) {o : Oper} {cf : FuncId → List V → M V} {f : R V} {v : V} (hk : evKind o.op P cf env = .rd f) (h : f.gives c.ρ m p v q) :
    PcR c.ρ q ∧ GivesR P c w o a v := by
  unfold GivesR execOp
  cases ho : o.op <;> rw [ho] at hk <;> first | exact (Kd.al_rd hk).elim | exact (Kd.ef_rd hk).elim | skip
  case move x =>
    have hk : Kd.rd (R.pure (opd x env)) = .rd f := hk
    simp only [Kd.rd.injEq] at hk; subst hk
    obtain ⟨rfl, rfl⟩ := R.gives_pure h
    exact ⟨hp, _, by simp, opd_ok he x⟩
  case assign x =>
    have hk : Kd.rd (R.pure (opd x env)) = .rd f := hk
    simp only [Kd.rd.injEq] at hk; subst hk
    obtain ⟨rfl, rfl⟩ := R.gives_pure h
    exact ⟨hp, _, by simp, opd_ok he x⟩
  case pick x y z =>
    have hk : Kd.rd (onBool (opd x env) (fun t => (decR t).bnd fun t => Bool.rec (R.pure (opd z env)) (R.pure (opd y env)) t) (R.fail "pick")) = .rd f := hk
    simp only [Kd.rd.injEq] at hk; subst hk
    obtain ⟨b, hb, h1⟩ := onBool_gives h
    have hx := opd_ok he x
    rw [hb, VR.bool] at hx
    obtain ⟨u, p1, h2, h3⟩ := R.gives_bnd h1
    obtain ⟨h4, h5⟩ := decR_gives hp h2
    rw [h4] at hx
    cases u
    · obtain ⟨rfl, rfl⟩ := R.gives_pure (show (R.pure (opd z env)).gives c.ρ m p1 v q from h3)
      exact ⟨h5, _, by simp [hx, asBool], opd_ok he z⟩
    · obtain ⟨rfl, rfl⟩ := R.gives_pure (show (R.pure (opd y env)).gives c.ρ m p1 v q from h3)
      exact ⟨h5, _, by simp [hx, asBool], opd_ok he y⟩
  case build t ps =>
    have hk : Kd.rd (buildR P t (partsV ps.toList env)) = .rd f := hk
    simp only [Kd.rd.injEq] at hk; subst hk
    obtain ⟨rfl, z, h1, h2⟩ := buildR_ok (w := w) (parts_arr he ps) h
    exact ⟨hp, z, by simp [h1], h2⟩
  case load t x =>
    have hk : Kd.rd (loadPtr P t (opd x env)) = .rd f := hk
    simp only [Kd.rd.injEq] at hk; subst hk
    obtain ⟨rfl, i, o', hx, z, h1, h2⟩ := loadPtr_ok hm hp (opd_ok he x) h
    exact ⟨hp, z, by simp [Instr.loadAt, hx, Instr.sureAddr, h1], h2⟩
  case nilCheck x =>
    have hk : Kd.rd (nilCheckR P (opd x env)) = .rd f := hk
    simp only [Kd.rd.injEq] at hk; subst hk
    have hx := opd_ok he x
    obtain ⟨rfl, rfl, hcs⟩ := nilCheckR_ok hx h
    rcases hcs with ⟨b, hb⟩ | ⟨g, b, d, hb⟩ | ⟨t, y, hb⟩ | ⟨nm, al, as, bs, hb, hn, hal⟩
    · exact ⟨hp, a.eval x, by simp [hb], hx⟩
    · exact ⟨hp, a.eval x, by simp [hb], hx⟩
    · exact ⟨hp, a.eval x, by simp [hb], hx⟩
    · obtain ⟨t, y, r, g1, g2, g3⟩ := nilMeth_ok hal hn
      have g1 : as[0]? = some (.iface t y) := by simpa using g1
      have hprog : (program).run P w = .ok P w := rfl
      obtain ⟨k, hk⟩ : ∃ k, P.types.size + Made.depth = k + 1 := ⟨P.types.size + 99, rfl⟩
      exact ⟨hp, a.eval x, by simp [hb, g1, Sem.run_bind, hprog, hk, nilAhead_ok (w := w) (k := k) (y := y) g2 g3], hx⟩
  case binOp op t x y u =>
    have hk : Kd.rd (binR op P t (orB (isConst x) (isConst y)) (opd x env) (opd y env)) = .rd f := hk
    simp only [Kd.rd.injEq] at hk; subst hk
    obtain ⟨h0, z, h1, h2⟩ := binR_ok (P := P) hm hp (opd_ok he x) (opd_ok he y) h
    refine ⟨h0, z, ?_, h2⟩
    show (do pure (Next.value (← (do eqGuard op t x y (a.eval x) (a.eval y); binOp op t (a.eval x) (a.eval y) : Sem Value))) : Sem Next).run P w = _
    rw [Sem.run_bind, h1, Result.andThen_ok, Sem.run_pure]
  case unOp op t x =>
    have hk : Kd.rd (unR op (opd x env)) = .rd f := hk
    simp only [Kd.rd.injEq] at hk; subst hk
    obtain ⟨rfl, z, h1, h2⟩ := unR_ok (P := P) (w := w) hp (opd_ok he x) h
    exact ⟨hp, z, by simp [h1], h2⟩
  case convert s d x =>
    have hk : (Bool.rec (Bool.rec (Kd.rd (convR P s d (opd x env))) (.ef (markM (opd x env))) (markT P s d)) (.ef (bytesM P d (opd x env))) (toSlice P s d) : Kd) = .rd f := hk
    cases hs : toSlice P s d <;> rw [hs] at hk
    · cases hmk : markT P s d <;> rw [hmk] at hk
      · simp only [Kd.rd.injEq] at hk; subst hk
        obtain ⟨rfl, z, h1, h2⟩ := convR_ok hm hp (opd_ok he x) h
        exact ⟨hp, z, by simp [h1], h2⟩
      · exact (Kd.ef_rd hk).elim
    · exact (Kd.ef_rd hk).elim
  case makeInterface t x =>
    have hk : Kd.rd (Option.rec (selB (hasT P t) (R.pure (.iface t (opd x env))) (R.fail "makeInterface")) (fun _ => R.fail "makeInterface") (wantsOf P t) : R V) = .rd f := hk
    simp only [Kd.rd.injEq] at hk; subst hk
    cases hw : wantsOf P t with
    | some ws => rw [hw] at h; exact (R.gives_fail (s := "makeInterface") h).elim
    | none =>
      rw [hw] at h
      obtain ⟨h1, h2⟩ := R.gives_if (show (selB (hasT P t) (R.pure (V.iface t (opd x env))) (R.fail "makeInterface")).gives c.ρ m p v q from h)
      obtain ⟨rfl, rfl⟩ := R.gives_pure h2
      obtain ⟨d, hu⟩ := hasT_iff h1
      have hni := wantsOf_none hw
      refine ⟨hp, .iface t (a.eval x), ?_, VR.iface.2 ⟨_, rfl, opd_ok he x⟩⟩
      cases d <;> first | exact absurd hu (hni _) | simp [Instr.makeInterface, run_und hu]
  case makeFunc fn first cap =>
    have hk : Kd.rd (R.pure (.func fn (opds first.toList env) (opds cap.toList env))) = .rd f := hk
    simp only [Kd.rd.injEq] at hk; subst hk
    obtain ⟨rfl, rfl⟩ := R.gives_pure h
    exact ⟨hp, .func fn (first.map a.eval) (cap.map a.eval), by simp [Instr.makeFunc], VR.func.2 ⟨_, _, rfl, opds_arr he first, opds_arr he cap⟩⟩
  case slice t x lo hi mx =>
    have hk : Kd.rd ((splitO (opd x env) (optV lo env)).bnd fun l => (splitO (opd x env) (optV hi env)).bnd fun h => sliceR P t l h (optV mx env) (opd x env)) = .rd f := hk
    simp only [Kd.rd.injEq] at hk; subst hk
    obtain ⟨l1, p1, g1, g2⟩ := R.gives_bnd h
    obtain ⟨hp1, hl1⟩ := splitO_ok hp (optV_ok he lo) g1
    obtain ⟨l2, p2, g3, g4⟩ := R.gives_bnd g2
    obtain ⟨hp2, hl2⟩ := splitO_ok hp1 (optV_ok he hi) g3
    obtain ⟨rfl, z, h1, h2⟩ := sliceR_ok (P := P) hm hp2 hl1 hl2 (optV_ok he mx) (opd_ok he x) g4
    exact ⟨hp2, z, by simp [h1], h2⟩
  case fieldAddr t x k =>
    have hk : Kd.rd (fieldAddrR P t k (opd x env)) = .rd f := hk
    simp only [Kd.rd.injEq] at hk; subst hk
    obtain ⟨rfl, z, h1, h2⟩ := fieldAddrR_ok (w := w) (opd_ok he x) h
    exact ⟨hp, z, by simp [h1], h2⟩
  case field t x k =>
    have hk : Kd.rd (fieldR P t k (opd x env)) = .rd f := hk
    simp only [Kd.rd.injEq] at hk; subst hk
    obtain ⟨rfl, z, h1, h2⟩ := fieldR_ok (w := w) (opd_ok he x) h
    exact ⟨hp, z, by simp [h1], h2⟩
  case indexAddr t x y =>
    have hk : Kd.rd ((splitIx (opd x env) (opd y env)).bnd fun i => indexAddrR P t (opd x env) i) = .rd f := hk
    simp only [Kd.rd.injEq] at hk; subst hk
    obtain ⟨i1, p1, g1, g2⟩ := R.gives_bnd h
    obtain ⟨hp1, hi1⟩ := splitIx_ok hp (opd_ok he y) g1
    obtain ⟨rfl, z, h1, h2⟩ := indexAddrR_ok (w := w) hp1 (opd_ok he x) hi1 g2
    exact ⟨hp1, z, by simp [h1], h2⟩
  case index t x y =>
    have hk : Kd.rd ((splitIx (opd x env) (opd y env)).bnd fun i => indexR P t (opd x env) i) = .rd f := hk
    simp only [Kd.rd.injEq] at hk; subst hk
    obtain ⟨i1, p1, g1, g2⟩ := R.gives_bnd h
    obtain ⟨hp1, hi1⟩ := splitIx_ok hp (opd_ok he y) g1
    obtain ⟨rfl, z, h1, h2⟩ := indexR_ok (w := w) hp1 (opd_ok he x) hi1 g2
    exact ⟨hp1, z, by simp [h1], h2⟩
  case lookup t x y ok =>
    have hk : Kd.rd (lookupR P t ok (opd x env) (opd y env)) = .rd f := hk
    simp only [Kd.rd.injEq] at hk; subst hk
    obtain ⟨h0, z, h1, h2⟩ := lookupR_ok hm hp (opd_ok he x) (opd_ok he y) h
    exact ⟨h0, z, by simp [h1], h2⟩
  case typeAssert x t u ok =>
    have hk : Kd.rd (assertR P u ok (opd x env)) = .rd f := hk
    simp only [Kd.rd.injEq] at hk; subst hk
    obtain ⟨rfl, z, h1, h2⟩ := assertR_ok (w := w) (xt := t) (opd_ok he x) h
    exact ⟨hp, z, by simp [h1], h2⟩
  case extract x i =>
    have hk : Kd.rd (onTup (opd x env) (fun l => R.opt "extract" (nth i l)) (R.fail "extract")) = .rd f := hk
    simp only [Kd.rd.injEq] at hk; subst hk
    obtain ⟨l, hl, h1⟩ := onTup_gives h
    obtain ⟨h2, rfl⟩ := R.gives_opt h1
    have hx := opd_ok he x
    rw [hl] at hx
    obtain ⟨xs, hxs, hvs⟩ := VR.tuple.1 hx
    rw [nth_eq] at h2
    obtain ⟨z, hz, hzr⟩ := hvs.get h2
    have hz : xs[i]? = some z := by simpa using hz
    exact ⟨hp, z, by simp [Instr.extract, hxs, hz], hzr⟩
  case call cl =>
    cases hc : cl.callee with
    | value g => rw [show evKind (Op.call cl) = hCall cl from rfl] at hk; unfold hCall at hk; rw [hc] at hk; exact (Kd.ef_rd hk).elim
    | invoke r nm => rw [show evKind (Op.call cl) = hCall cl from rfl] at hk; unfold hCall at hk; rw [hc] at hk; exact (Kd.ef_rd hk).elim
    | builtin b =>
      rw [show evKind (Op.call cl) = hCall cl from rfl] at hk; unfold hCall at hk; rw [hc] at hk
      cases b <;> first | exact (Kd.ef_rd hk).elim | skip
      case len =>
        have hk : Kd.rd (onT cl.argTypes.toList (fun t _ => on1 (opds cl.args.toList env) (lenR P t) (R.fail "len")) (R.fail "len")) = .rd f := hk
        simp only [Kd.rd.injEq] at hk; subst hk
        obtain ⟨t, us, ht, h1⟩ := onT_gives h
        obtain ⟨x, r, hx, h2⟩ := on1_gives h1
        obtain ⟨X, hX, hxr⟩ := head_arr (opds_arr he cl.args) hx
        obtain ⟨rfl, z, h3, h4⟩ := lenR_ok (P := P) (w := w) (ty := o.type) (ts := cl.argTypes) hm hxr (by rw [← Array.getElem?_toList, ht]; rfl) hX h2
        exact ⟨hp, z, by simp [resolve, hc, invoke, builtin, h3], h4⟩
      case cap =>
        have hk : Kd.rd (onT cl.argTypes.toList (fun t _ => on1 (opds cl.args.toList env) (capR P t) (R.fail "cap")) (R.fail "cap")) = .rd f := hk
        simp only [Kd.rd.injEq] at hk; subst hk
        obtain ⟨t, us, ht, h1⟩ := onT_gives h
        obtain ⟨x, r, hx, h2⟩ := on1_gives h1
        obtain ⟨X, hX, hxr⟩ := head_arr (opds_arr he cl.args) hx
        obtain ⟨rfl, z, h3, h4⟩ := capR_ok (P := P) (w := w) (ty := o.type) (ts := cl.argTypes) hxr (by rw [← Array.getElem?_toList, ht]; rfl) hX h2
        exact ⟨hp, z, by simp [resolve, hc, invoke, builtin, h3], h4⟩
      case max =>
        have hk : Kd.rd (minMax1 false (opds cl.args.toList env)) = .rd f := hk
        simp only [Kd.rd.injEq] at hk; subst hk
        obtain ⟨h0, z, h3, h4⟩ := minMax1_ok (P := P) (w := w) (ty := o.type) (ts := cl.argTypes) hp (opds_arr he cl.args) h
        have h3 : (Builtin.max_ cl.argTypes o.type (cl.args.map a.eval)).run P w = .ok z w := h3
        exact ⟨h0, z, by simp [resolve, hc, invoke, builtin, h3], h4⟩
      case min =>
        have hk : Kd.rd (minMax1 true (opds cl.args.toList env)) = .rd f := hk
        simp only [Kd.rd.injEq] at hk; subst hk
        obtain ⟨h0, z, h3, h4⟩ := minMax1_ok (P := P) (w := w) (ty := o.type) (ts := cl.argTypes) hp (opds_arr he cl.args) h
        have h3 : (Builtin.min_ cl.argTypes o.type (cl.args.map a.eval)).run P w = .ok z w := h3
        exact ⟨h0, z, by simp [resolve, hc, invoke, builtin, h3], h4⟩

theorem Kd.rd_al {f : R V} {g : R (Blk × Shp)} (h : Kd.rd f = .al g) : False := nomatch h
theorem Kd.ef_al {f : M V} {g : R (Blk × Shp)} (h : Kd.ef f = .al g) : False := nomatch h
theorem Kd.rd_ef {f : R V} {g : M V} (h : Kd.rd f = .ef g) : False := nomatch h
theorem Kd.al_ef {f : R (Blk × Shp)} {g : M V} (h : Kd.al f = .ef g) : False := nomatch h

/-- the run of an operation that makes a block -/
def MakesR (P : Program) (c : Cx) (w : World) (o : Oper) (a : Act) (bs : Blk × Shp) : Prop :=
  ∃ ob z, (execOp a.eval o).run P w = .ok (.value z) (w.alloc ob) ∧ BlkR (c.addB w) (w.alloc ob) (w.heap.size, 0) bs.1 ∧ VR (c.addB w) (bs.2.val c.nb) z

theorem AlOK.makes {o : Oper} {bs : Blk × Shp} {s : Sem Value} (h : AlOK P c w bs s) (he : execOp a.eval o = (do pure (.value (← s)))) : MakesR P c w o a bs := by
  obtain ⟨ob, z, h1, h2, h3⟩ := h
  refine ⟨ob, z, ?_, h2, h3⟩
  rw [he, Sem.run_bind, h1, Result.andThen_ok, Sem.run_pure]

theorem al_ok (hp : PcR c.ρ p) (he : EnvR c n env a) {o : Oper} {cf : FuncId → List V → M V} {f : R (Blk × Shp)} {bs : Blk × Shp} (hk : evKind o.op P cf env = .al f) (h : f.gives c.ρ m p bs q) :
    q = p ∧ MakesR P c w o a bs := by
  cases ho : o.op <;> rw [ho] at hk <;> first | exact (Kd.rd_al hk).elim | exact (Kd.ef_al hk).elim | skip
  case alloc t =>
    have hk : Kd.al (R.opt "alloc no zero" ((zeroOf P t).map fun z => (newCells z.cells, Shp.ptr))) = .al f := hk
    simp only [Kd.al.injEq] at hk; subst hk
    obtain ⟨rfl, h1⟩ := alloc_ok (P := P) (w := w) h
    exact ⟨rfl, h1.makes (by unfold execOp; rw [ho])⟩
  case box t x =>
    have hk : Kd.al (selB (allCells (opd x env).cells) (R.pure (newCells (opd x env).cells, Shp.ptr)) (R.fail "box")) = .al f := hk
    simp only [Kd.al.injEq] at hk; subst hk
    obtain ⟨rfl, h1⟩ := box_ok (P := P) (w := w) (t := t) (opd_ok he x) h
    exact ⟨rfl, h1.makes (by unfold execOp; rw [ho])⟩
  case buildSlice t k ps =>
    have hk : Kd.al (buildSliceR P t k (partsV ps.toList env)) = .al f := hk
    simp only [Kd.al.injEq] at hk; subst hk
    obtain ⟨rfl, h1⟩ := buildSlice_ok (P := P) (w := w) (parts_arr he ps) h
    exact ⟨rfl, h1.makes (by unfold execOp; rw [ho])⟩
  case convert s d x =>
    have hk : (Bool.rec (Bool.rec (Kd.rd (convR P s d (opd x env))) (.ef (markM (opd x env))) (markT P s d)) (.ef (bytesM P d (opd x env))) (toSlice P s d) : Kd) = .al f := hk
    cases hs : toSlice P s d <;> rw [hs] at hk
    · cases hmk : markT P s d <;> rw [hmk] at hk
      · exact (Kd.rd_al hk).elim
      · exact (Kd.ef_al hk).elim
    · exact (Kd.ef_al hk).elim
  case makeMap t r =>
    have hk : Kd.al (Option.rec (R.pure (.map [] 0 true, .map)) (fun x => onInt (opd x env) (fun _ _ => selB (isMapT P t) (R.pure (.map [] 0 true, .map)) (R.fail "makeMap")) (R.fail "makeMap")) r : R (Blk × Shp)) = .al f := hk
    simp only [Kd.al.injEq] at hk; subst hk
    obtain ⟨rfl, h1⟩ := makeMap_ok (P := P) (w := w) (t := t) (optV_ok he r) (bs := bs) (by cases r <;> exact h)
    exact ⟨rfl, h1.makes (by unfold execOp; rw [ho])⟩
  case makeSlice t l k =>
    have hk : Kd.al (makeSliceR P t (opd l env) (opd k env)) = .al f := hk
    simp only [Kd.al.injEq] at hk; subst hk
    obtain ⟨rfl, h1⟩ := makeSlice_ok (P := P) (w := w) hp (opd_ok he l) (opd_ok he k) h
    exact ⟨rfl, h1.makes (by unfold execOp; rw [ho])⟩
  case call cl =>
    cases hc : cl.callee with
    | value g => rw [show evKind (Op.call cl) = hCall cl from rfl] at hk; unfold hCall at hk; rw [hc] at hk; exact (Kd.ef_al hk).elim
    | invoke r nm => rw [show evKind (Op.call cl) = hCall cl from rfl] at hk; unfold hCall at hk; rw [hc] at hk; exact (Kd.ef_al hk).elim
    | builtin b =>
      rw [show evKind (Op.call cl) = hCall cl from rfl] at hk; unfold hCall at hk; rw [hc] at hk
      cases b <;> first | exact (Kd.ef_al hk).elim | exact (Kd.rd_al hk).elim
end ops

end Go.Sy

/-
  What is proved here: an operation that writes, or calls, does what the model's does.
  Conditions: none.
-/
namespace Go.Sy

/-- what a call may be of: a function with a body -/
def Callable (P : Program) (f : FuncId) : Prop := ∃ fn, P.funcs[f]? = some fn ∧ fn.body.isNone = false ∧ (fn.name == "runtime.NumGoroutine") = false

/-- a call comes back -/
def CallOK (P : Program) (f : FuncId) (args : Array Value) (c : Cx) (m : Mem) (w : World) (m' : Mem) (v : V) (q : Pc) : Prop :=
  Callable P f ∧ Calls P f args w fun e w' => ∃ c' z, e = .returned z ∧ Step c m w c' m' w' ∧ VR c' v z ∧ PcR c.ρ q

/-- the evaluator's calls are the model's -/
def CallsOK (P : Program) (ρ : Nat → Int) (cf : FuncId → List V → M V) : Prop :=
  ∀ (f : FuncId) (l : List V) (c : Cx) (m m' : Mem) (w : World) (p q : Pc) (v : V) (args : Array Value), c.ρ = ρ → MemR c m w → PcR c.ρ p → GlobR c → VRs c l args.toList → (cf f l).gives c.ρ m p v m' q → CallOK P f args c m w m' v q

section ops
variable {P : Program} {c : Cx} {m m' : Mem} {w : World} {p q : Pc} {n : Nat} {env : Env} {a : Act}

theorem run_callFunc {f : FuncId} (h : Callable P f) (args : Array Value) : (callFunc f args).run P w = .ok (.enter f args) w := by
  obtain ⟨fn, h1, h2, h3⟩ := h
  have h3 : fn.name ≠ "runtime.NumGoroutine" := by simpa using h3
  have h2 : fn.body ≠ none := by cases hb : fn.body <;> simp [hb] at h2 ⊢
  simp [callFunc, h1, h2, h3]

/-- what an operation that writes, or calls, does -/
def EffR (P : Program) (c : Cx) (m : Mem) (w : World) (m' : Mem) (v : V) (q : Pc) (o : Oper) (a : Act) : Prop :=
  ∀ (K : Act → World → Prop) (Q : Exit → Act → World → Prop), (∀ c' w' z, PcR c.ρ q → Step c m w c' m' w' → VR c' v z → K (a.put o.dst z) w') → o.wp P a w K Q

theorem EffR.of_value {o : Oper} {v : V} {s : Sem Value} (hq : PcR c.ρ q) (h : EfOK P c m w m' v s) (he : execOp a.eval o = (do pure (.value (← s)))) : EffR P c m w m' v q o a := by
  obtain ⟨c', w', z, h1, h2, h3⟩ := h
  intro K Q hK
  unfold Oper.wp
  rw [he, Sem.run_bind, h2, Result.andThen_ok, Sem.run_pure]
  exact hK c' w' z hq h1 h3

theorem EffR.of_unit {o : Oper} {w' : World} {s : Sem Unit} (hq : PcR c.ρ q) (h : Step c m w c m' w') (hr : s.run P w = .ok () w') (he : execOp a.eval o = (do s; pure .skip)) : EffR P c m w m' undefV q o a := by
  intro K Q hK
  unfold Oper.wp
  rw [he, Sem.run_bind, hr, Result.andThen_ok, Sem.run_pure]
  exact hK c w' undef hq h VR.undef

theorem EffR.of_call {o : Oper} {f : FuncId} {args : Array Value} {v : V} (h : CallOK P f args c m w m' v q) (he : (execOp a.eval o).run P w = .ok (.enter f args) w) : EffR P c m w m' v q o a := by
  intro K Q hK
  unfold Oper.wp
  rw [he, Oper.upon_enter]
  refine Calls.mono h.2 fun e w' hR => ?_
  obtain ⟨c', z, rfl, h1, h2, h3⟩ := hR
  exact hK c' w' z h3 h1 h2

theorem skipV_gives {x : M Unit} {v : V} (h : (skipV x).gives c.ρ m p v m' q) : v = undefV ∧ x.gives c.ρ m p () m' q := by
  obtain ⟨u, m1, p1, h1, h2⟩ := M.gives_bnd h
  obtain ⟨rfl, rfl, rfl⟩ := M.gives_pure h2
  exact ⟨rfl, h1⟩

theorem methodOf_some {t : TypeId} {name : String} {r : FuncId × Bool} (h : methodOf P t name = some r) : ∃ i mt, P.info? t = some i ∧ i.methods.find? (·.name == name) = some mt ∧ mt.path.toList = [] ∧ mt.func = some r := by
  unfold methodOf at h
  split at h
  · simp at h
  · rename_i i hi
    split at h
    · simp at h
    · rename_i mt hmt
      split at h
      · rename_i hp; exact ⟨i, mt, hi, hmt, hp, h⟩
      · simp at h

theorem recv_ok (hm : MemR c m w) (hp : PcR c.ρ p) {t : TypeId} {pr : Bool} {v y : V} {x : Value} {wr : Option String} (hv : VR c v x) (h : (recvR P t v pr).gives c.ρ m p y q) :
    q = p ∧ ∃ z, (receiverAt t (.val x) pr wr).run P w = .ok z w ∧ VR c y z := by
  unfold recvR at h
  cases he : ptrElem P t with
  | none =>
    rw [he] at h
    obtain ⟨h1, h2⟩ := R.gives_if (show (selB (andB (hasT P t) (notB pr)) (R.pure v) (R.fail "method a pointers")).gives c.ρ m p y q from h)
    obtain ⟨rfl, rfl⟩ := R.gives_pure h2
    obtain ⟨h3, h4⟩ := andB_iff.1 h1
    obtain ⟨d, hu⟩ := hasT_iff h3
    cases pr with
    | true => exact absurd h4 (by simp [notB])
    | false =>
      refine ⟨rfl, x, ?_, hv⟩
      have hnp : ∀ e, d ≠ .pointer e := by
        rintro e rfl
        unfold ptrElem at he
        rw [hu] at he
        simp at he
      cases d <;> first | exact absurd rfl (hnp _) | simp [receiverAt, run_und hu, Place.get]
  | some el =>
    rw [he] at h
    have hu := ptrElem_some he
    have h : (selB pr (R.pure v) (loadPtr P el v)).gives c.ρ m p y q := h
    cases pr with
    | true =>
      obtain ⟨rfl, rfl⟩ := R.gives_pure (show (R.pure v).gives c.ρ m p y q from h)
      exact ⟨rfl, x, by simp [receiverAt, run_und hu, Place.get], hv⟩
    | false =>
      obtain ⟨rfl, i, o, rfl, z, h1, h2⟩ := loadPtr_ok hm hp hv (show (loadPtr P el v).gives c.ρ m p y q from h)
      refine ⟨rfl, z, ?_, h2⟩
      cases wr with
      | none => simp [receiverAt, run_und hu, Place.get, asAddr, h1]
      | some s =>
        have hw : (Builtin.ssaWrapNilChk_ #[t] t #[.pointer (some (c.ad i o)), strVal "", strVal s]).run P w = .ok (.pointer (some (c.ad i o))) w := rfl
        simp [receiverAt, run_und hu, Place.get, asAddr, h1, hw]

theorem method_ok (hm : MemR c m w) (hp : PcR c.ρ p) {t : TypeId} {name : String} {f : FuncId} {pr : Bool} {v y : V} {x : Value} (k : Nat) (hmo : methodOf P t name = some (f, pr)) (hv : VR c v x) (h : (recvR P t v pr).gives c.ρ m p y q) :
    q = p ∧ ∃ z, (method (k + 1) t x name).run P w = .ok (f, z) w ∧ VR c y z := by
  obtain ⟨i, mt, hi, hf, hpa, hfn⟩ := methodOf_some hmo
  obtain ⟨rfl, z, h1, h2⟩ := recv_ok (wr := if mt.path.isEmpty then some ((name.splitOn ".").getLastD name) else none) hm hp hv h
  refine ⟨rfl, z, ?_, h2⟩
  simp only [method, Sem.run_bind, run_info hi, Result.andThen_ok, hf, hpa, follow, Sem.run_pure, hfn, h1]

theorem invoke_ok (hm : MemR c m w) (hp : PcR c.ρ p) (hg : GlobR c) {cf : FuncId → List V → M V} (hcf : CallsOK P c.ρ cf) {name : String} {rv v : V} {R' : Value} {l : List V} {args : Array Value} (hr : VR c rv R') (hl : VRs c l args.toList)
    (h : (invokeM P cf name rv l).gives c.ρ m p v m' q) : ∃ f args', CallOK P f args' c m w m' v q ∧ (callMethod R' name args).run P w = .ok (.enter f args') w := by
  obtain ⟨t, y, rfl, h1⟩ := onIfaceM_gives (s := "a method of nil") (show (onIface rv (fun t v => (Option.rec (M.fail "no method") (fun a => (recvR P t v a.2).thn fun x => cf a.1 (x :: l)) (methodOf P t name) : M V)) (M.fail "a method of nil")).gives c.ρ m p v m' q from h)
  obtain ⟨Y, rfl, hy⟩ := VR.iface.1 hr
  cases hmo : methodOf P t name with
  | none => simp only [hmo] at h1; exact (M.gives_fail h1).elim
  | some r =>
    obtain ⟨f, pr⟩ := r
    simp only [hmo] at h1
    obtain ⟨x, p1, h2, h3⟩ := R.gives_thn (show ((recvR P t y pr).thn fun x => cf f (x :: l)).gives c.ρ m p v m' q from h1)
    obtain ⟨k, hk⟩ : ∃ k, P.types.size + Made.depth = k + 1 := ⟨P.types.size + 99, rfl⟩
    obtain ⟨rfl, z, h4, h5⟩ := method_ok (w := w) hm hp k hmo hy h2
    have hargs : VRs c (x :: l) (#[z] ++ args).toList := by
      rw [Array.toList_append]; exact VRs.cons h5 hl
    have h7 := hcf f (x :: l) c m m' w p1 q v (#[z] ++ args) rfl hm hp hg hargs h3
    refine ⟨f, #[z] ++ args, h7, ?_⟩
    rw [← hk] at h4
    have hprog : (program).run P w = .ok P w := rfl
    simp only [callMethod, Sem.run_bind, hprog, Result.andThen_ok, h4, run_callFunc h7.1]
end ops

end Go.Sy

/-
  What is proved here: the evaluator's answers for functions without a body are the model's.
  Conditions: none.
-/
namespace Go.Sy

section ops
variable {P : Program} {c : Cx} {m : Mem} {w : World} {p q : Pc}

def extName : Nat → String
  | 0 => "internal/bytealg.CountString"
  | _ => "internal/bytealg.IndexByteString"

theorem extNo_some {f : FuncId} {n : Nat} (h : extNo P f = n + 1) : n < 2 ∧ ∃ fn, P.funcs[f]? = some fn ∧ fn.body.isNone = true ∧ fn.origin = "" ∧ fn.name = extName n := by
  unfold extNo at h
  split at h
  · rename_i fn hf
    cases hb : (fn.body.isNone && fn.origin == "") with
    | false => rw [hb] at h; exact nomatch h
    | true =>
      rw [hb] at h
      rw [Bool.and_eq_true, beq_iff_eq] at hb
      cases h1 : fn.name == "internal/bytealg.CountString" with
      | true =>
        rw [h1] at h
        have h : 1 = n + 1 := h
        obtain rfl : n = 0 := by omega
        exact ⟨by omega, fn, hf, hb.1, hb.2, (beq_iff_eq.1 h1 :)⟩
      | false =>
        rw [h1] at h
        cases h2 : fn.name == "internal/bytealg.IndexByteString" with
        | true =>
          rw [h2] at h
          have h : 2 = n + 1 := h
          obtain rfl : n = 1 := by omega
          exact ⟨by omega, fn, hf, hb.1, hb.2, (beq_iff_eq.1 h2 :)⟩
        | false => rw [h2] at h; exact nomatch h
  · exact nomatch h

def extSem : Nat → Array Value → Sem Value
  | 0 => Extern.BytealgCount.count
  | _ => Extern.BytealgIndexByte.indexByte

theorem ext_find {fn : Func} {n : Nat} (hn : n < 2) (ho : fn.origin = "") (h : fn.name = extName n) : Extern.findNext fn = none ∧ Extern.find fn = some (extSem n) := by
  unfold Extern.findNext Extern.find
  rw [ho, h]
  have hc : n = 0 ∨ n = 1 := by omega
  rcases hc with rfl | rfl
  · have e1 : Extern.allNextRows.lookup (extName 0) = none := by kernel_rfl
    have e2 : Extern.allNextRows.lookup "" = none := by kernel_rfl
    have e3 : Extern.allGenericRows.lookup (extName 0) = none := by kernel_rfl
    have e4 : Extern.allTypedRows.lookup (extName 0) = none := by kernel_rfl
    have e5 : Extern.allRows.lookup (extName 0) = some (extSem 0) := by kernel_rfl
    simp only [e1, e2, e3, e4, e5]
    exact ⟨rfl, rfl⟩
  · have e1 : Extern.allNextRows.lookup (extName 1) = none := by kernel_rfl
    have e2 : Extern.allNextRows.lookup "" = none := by kernel_rfl
    have e3 : Extern.allGenericRows.lookup (extName 1) = none := by kernel_rfl
    have e4 : Extern.allTypedRows.lookup (extName 1) = none := by kernel_rfl
    have e5 : Extern.allRows.lookup (extName 1) = some (extSem 1) := by kernel_rfl
    simp only [e1, e2, e3, e4, e5]
    exact ⟨rfl, rfl⟩

theorem cntR_ok {e : E} {x : UInt8} (he : e.den c.ρ = (x.toNat : Int)) : ∀ {l : List E} {bs : List UInt8} {n r : Nat} {p : Pc}, PcR c.ρ p → BR c l bs → (cntR e l n).gives c.ρ m p r q → PcR c.ρ q ∧ r = n + Lib.countByte bs x
  | [], bs, n, r, p, hp, hb, h => by
    obtain ⟨rfl, rfl⟩ := R.gives_pure (show (R.pure n).gives c.ρ m p r q from h)
    rw [BR.nil_iff] at hb; subst hb
    exact ⟨hp, by simp [Lib.countByte]⟩
  | b :: l, bs, n, r, p, hp, hb, h => by
    obtain ⟨y, ys, rfl, h1, h2⟩ := BR.cons_iff.1 hb
    obtain ⟨v, p1, h3, h4⟩ := R.gives_bnd (show ((decR (mkEq b e)).bnd fun v => cntR e l (selB v (Nat.succ n) n)).gives c.ρ m p r q from h)
    obtain ⟨h5, h6⟩ := decR_gives hp h3
    rw [mkEq_den, h1, he] at h5
    obtain ⟨h7, h8⟩ := cntR_ok he h6 h2 h4
    refine ⟨h7, ?_⟩
    rw [h8]
    cases v with
    | true =>
      have hy : y = x := byte_eq.1 (by simpa using h5)
      subst hy
      show Nat.succ n + _ = _
      simp [Lib.countByte]; omega
    | false =>
      have hy : y ≠ x := fun e => by subst e; simp at h5
      show n + _ = _
      simp [Lib.countByte, hy]

theorem lenN_ok' {n : Nat} {v : V} (h : (lenN n).gives c.ρ m p v q) : q = p ∧ VR c v (.int .i64 (n : Int)) := lenN_ok h

theorem idxR_ok {e : E} {x : UInt8} (he : e.den c.ρ = (x.toNat : Int)) : ∀ {l : List E} {bs : List UInt8} {i : Nat} {v : V} {p : Pc}, PcR c.ρ p → BR c l bs → (idxR e l i).gives c.ρ m p v q →
    PcR c.ρ q ∧ VR c v (.int .i64 (if Lib.indexByte bs x = -1 then -1 else (i : Int) + Lib.indexByte bs x)) ∧ -1 ≤ Lib.indexByte bs x
  | [], bs, i, v, p, hp, hb, h => by
    obtain ⟨rfl, rfl⟩ := R.gives_pure (show (R.pure (V.int .i64 (.n (-1)))).gives c.ρ m p v q from h)
    rw [BR.nil_iff] at hb; subst hb
    refine ⟨hp, ?_, by simp [Lib.indexByte]⟩
    simp only [Lib.indexByte, if_true]
    exact VR.int.2 ⟨rfl, show kMin .i64 ≤ -1 by decide, show -1 ≤ kMax .i64 by decide⟩
  | b :: l, bs, i, v, p, hp, hb, h => by
    obtain ⟨y, ys, rfl, h1, h2⟩ := BR.cons_iff.1 hb
    obtain ⟨u, p1, h3, h4⟩ := R.gives_bnd (show ((decR (mkEq b e)).bnd fun v => (Bool.rec (idxR e l (Nat.succ i)) (lenN i) v : R V)).gives c.ρ m p v q from h)
    obtain ⟨h5, h6⟩ := decR_gives hp h3
    rw [mkEq_den, h1, he] at h5
    cases u with
    | true =>
      have hy : y = x := byte_eq.1 (by simpa using h5)
      subst hy
      obtain ⟨rfl, h7⟩ := lenN_ok' (show (lenN i).gives c.ρ m p1 v q from h4)
      exact ⟨h6, by simpa [Lib.indexByte] using h7, by simp [Lib.indexByte]⟩
    | false =>
      have hy : (y == x) = false := by
        cases hb : y == x with
        | false => rfl
        | true => rw [beq_iff_eq] at hb; subst hb; simp at h5
      obtain ⟨h7, h8, h9⟩ := idxR_ok he h6 h2 (show (idxR e l (Nat.succ i)).gives c.ρ m p1 v q from h4)
      by_cases hr : Lib.indexByte ys x = -1
      · rw [if_pos hr] at h8
        refine ⟨h7, ?_, by simp [Lib.indexByte, hy, hr]⟩
        rw [if_pos (by simp [Lib.indexByte, hy, hr])]
        exact h8
      · rw [if_neg hr] at h8
        have hv : Lib.indexByte (y :: ys) x = Lib.indexByte ys x + 1 := by simp [Lib.indexByte, hy, hr]
        refine ⟨h7, ?_, by omega⟩
        rw [if_neg (by omega), hv]
        have : ((Nat.succ i : Nat) : Int) + Lib.indexByte ys x = (i : Int) + (Lib.indexByte ys x + 1) := by push_cast; omega
        rw [this] at h8
        exact h8

theorem ext_ok (hp : PcR c.ρ p) {f : FuncId} {n : Nat} (hx : extNo P f = n + 1) {l : List V} {args : Array Value} (hl : VRs c l args.toList) {v : V} (h : (extR n l).gives c.ρ m p v q) :
    PcR c.ρ q ∧ ∃ z, (callFunc f args).run P w = .ok (.value z) w ∧ VR c v z := by
  obtain ⟨hn, fn, hf, hb, ho, hname⟩ := extNo_some hx
  obtain ⟨e1, e2⟩ := ext_find hn ho hname
  have hng : (fn.name == "runtime.NumGoroutine") = false := by
    rw [hname]
    have hc : n = 0 ∨ n = 1 := by omega
    rcases hc with rfl | rfl <;> decide +kernel
  have hrun := fun args => run_callFunc_extern hf hng hb e1 e2 args w
  obtain ⟨s, b, rfl, h1⟩ : ∃ s b, l = [s, b] ∧ (onStr s (fun l => onInt b (fun k e => selB (Nat.beq (kindNo k) 4) (Nat.rec ((cntR e l 0).bnd lenN) (fun _ _ => idxR e l 0) n : R V) (R.fail "extern")) (R.fail "extern")) (R.fail "extern")).gives c.ρ m p v q := by
    cases l with
    | nil => exact (R.gives_fail (s := "extern") h).elim
    | cons s r =>
      cases r with
      | nil => exact (R.gives_fail (s := "extern") h).elim
      | cons b r =>
        cases r with
        | nil => exact ⟨s, b, rfl, h⟩
        | cons _ _ => exact (R.gives_fail (s := "extern") h).elim
  obtain ⟨es, rfl, h2⟩ := onStr_gives h1
  obtain ⟨k, e, rfl, h3⟩ := onInt_gives h2
  obtain ⟨h4, h5⟩ := R.gives_if h3
  have hk : k = .u8 := kindNo_inj (k' := .u8) h4
  subst hk
  obtain ⟨X, r1, hX, g1, g2⟩ := VRs.cons_iff.1 hl
  obtain ⟨Y, r2, hY, g3, g4⟩ := VRs.cons_iff.1 g2
  rw [VRs.nil_iff] at g4
  subst g4 hY
  have hargs : args = #[X, Y] := by rw [← Array.toArray_toList (xs := args), hX]
  subst hargs
  obtain ⟨st, rfl, gs⟩ := VR.str.1 g1
  obtain ⟨rfl, gi0, gi1⟩ := VR.int.1 g3
  have gi0 : 0 ≤ e.den c.ρ := gi0
  have gi1 : e.den c.ρ ≤ 255 := gi1
  have hxe : e.den c.ρ = (((e.den c.ρ).toNat.toUInt8).toNat : Int) := by
    have : (e.den c.ρ).toNat < 256 := by omega
    rw [Nat.toUInt8, UInt8.toNat_ofNat', Nat.mod_eq_of_lt this]; omega
  have hc : n = 0 ∨ n = 1 := by omega
  rcases hc with rfl | rfl
  · obtain ⟨k, p1, h6, h7⟩ := R.gives_bnd (show ((cntR e es 0).bnd lenN).gives c.ρ m p v q from h5)
    obtain ⟨h8, h9⟩ := cntR_ok hxe hp gs h6
    obtain ⟨rfl, h10⟩ := lenN_ok' h7
    refine ⟨h8, _, ?_, h10⟩
    rw [hrun]
    show ((Extern.BytealgCount.count #[.string st, .int .u8 (e.den c.ρ)]).run P w).andThen _ = _
    rw [Lib.run_countString, h9, Nat.zero_add]; rfl
  · obtain ⟨h8, h9, h10⟩ := idxR_ok hxe hp gs (show (idxR e es 0).gives c.ρ m p v q from h5)
    refine ⟨h8, _, ?_, h9⟩
    rw [hrun]
    show ((Extern.BytealgIndexByte.indexByte #[.string st, .int .u8 (e.den c.ρ)]).run P w).andThen _ = _
    rw [Lib.run_indexByteString]
    simp only [Result.andThen]
    congr 2
    split
    · rename_i hh; rw [hh]
    · simp
end ops

end Go.Sy

/-
  What is proved here: each operation that writes, or calls, does what the model's does.
  Conditions: none.
-/
namespace Go.Sy

section ops
variable {P : Program} {c : Cx} {m m' : Mem} {w : World} {p q : Pc} {n : Nat} {env : Env} {a : Act}

theorem catV_arr {l l' : List V} {xs ys : Array Value} (h : VRs c l xs.toList) (h' : VRs c l' ys.toList) : VRs c (catV l l') (xs ++ ys).toList := by
  rw [catV_eq, Array.toList_append]; exact h.append h'

theorem ef_ok (hm : MemR c m w) (hp : PcR c.ρ p) (he : EnvR c n env a) {cf : FuncId → List V → M V} (hcf : CallsOK P c.ρ cf) {o : Oper} {f : M V} {v : V} (hk : evKind o.op P cf env = .ef f) (h : f.gives c.ρ m p v m' q) :
    EffR P c m w m' v q o a := by
  have none : (M.fail "an operation" : M V).gives c.ρ m p v m' q → EffR P c m w m' v q o a := fun h => (M.gives_fail h).elim
  cases ho : o.op <;> rw [ho] at hk <;> first | exact (Kd.rd_ef hk).elim | exact (Kd.al_ef hk).elim | (have hk : Kd.ef (M.fail "an operation") = .ef f := hk; simp only [Kd.ef.injEq] at hk; subst hk; exact none h) | skip
  case insert t mp k x =>
    have hk : Kd.ef (skipV (mapUpdateM P t (opd mp env) (opd k env) (opd x env))) = .ef f := hk
    simp only [Kd.ef.injEq] at hk; subst hk
    obtain ⟨rfl, h1⟩ := skipV_gives h
    obtain ⟨h2, w', h3, h4⟩ := mapUpdate_ok hm hp (opd_ok he mp) (opd_ok he k) (opd_ok he x) h1
    exact EffR.of_unit h2 h3 h4 (by unfold execOp; rw [ho])
  case store t x y =>
    have hk : Kd.ef (skipV (storeM P t (opd x env) (opd y env))) = .ef f := hk
    simp only [Kd.ef.injEq] at hk; subst hk
    obtain ⟨rfl, h1⟩ := skipV_gives h
    obtain ⟨rfl, w', h3, h4⟩ := storeM_ok hm (opd_ok he x) (opd_ok he y) h1
    exact EffR.of_unit hp h3 h4 (by unfold execOp; rw [ho])
  case convert s d x =>
    have hk : (Bool.rec (Bool.rec (Kd.rd (convR P s d (opd x env))) (.ef (markM (opd x env))) (markT P s d)) (.ef (bytesM P d (opd x env))) (toSlice P s d) : Kd) = .ef f := hk
    cases hs : toSlice P s d <;> rw [hs] at hk
    · cases hmk : markT P s d <;> rw [hmk] at hk
      · exact (Kd.rd_ef hk).elim
      · simp only [Kd.ef.injEq] at hk; subst hk
        obtain ⟨rfl, h1⟩ := markM_ok hm (opd_ok he x) hmk h
        exact EffR.of_value hp h1 (by unfold execOp; rw [ho])
    · simp only [Kd.ef.injEq] at hk; subst hk
      have hs' : isStrT P s = true := by unfold toSlice at hs; simp at hs; exact hs.1
      obtain ⟨rfl, h1⟩ := bytesM_ok hm (opd_ok he x) hs' h
      exact EffR.of_value hp h1 (by unfold execOp; rw [ho])
  case mapUpdate t mp k x =>
    have hk : Kd.ef (skipV (mapUpdateM P t (opd mp env) (opd k env) (opd x env))) = .ef f := hk
    simp only [Kd.ef.injEq] at hk; subst hk
    obtain ⟨rfl, h1⟩ := skipV_gives h
    obtain ⟨h2, w', h3, h4⟩ := mapUpdate_ok hm hp (opd_ok he mp) (opd_ok he k) (opd_ok he x) h1
    exact EffR.of_unit h2 h3 h4 (by unfold execOp; rw [ho])
  case mapEntry t mp k =>
    have hk : Kd.ef (mapEntryM P t (opd mp env) (opd k env)) = .ef f := hk
    simp only [Kd.ef.injEq] at hk; subst hk
    obtain ⟨h1, h2⟩ := mapEntry_ok hm hp (opd_ok he mp) (opd_ok he k) h
    exact EffR.of_value h1 h2 (by unfold execOp; rw [ho])
  case entryStore t mp s x =>
    have hk : Kd.ef (skipV (entryStoreM (opd mp env) (opd s env) (opd x env))) = .ef f := hk
    simp only [Kd.ef.injEq] at hk; subst hk
    obtain ⟨rfl, h1⟩ := skipV_gives h
    obtain ⟨rfl, w', h3, h4⟩ := entryStore_ok (t := t) (P := P) hm hp (opd_ok he mp) (opd_ok he s) (opd_ok he x) h1
    exact EffR.of_unit hp h3 h4 (by unfold execOp; rw [ho])
  case call cl =>
    rw [show evKind (Op.call cl) = hCall cl from rfl] at hk
    unfold hCall at hk
    have hargs := opds_arr he cl.args
    cases hc : cl.callee with
    | value g =>
      rw [hc] at hk
      have hk : Kd.ef (callV P cf (opd g env) (opds cl.args.toList env)) = .ef f := hk
      simp only [Kd.ef.injEq] at hk; subst hk
      have hg := opd_ok he g
      cases hgv : opd g env <;> rw [hgv] at h hg <;> try exact (M.gives_fail (s := "call of what") h).elim
      case func fn fa fb =>
        obtain ⟨as, bs, hx, h1, h2⟩ := VR.func.1 hg
        cases fn <;> try exact (M.gives_fail (s := "call of a methods value") h).elim
        case func fid =>
          have h : (cfx P cf fid (catV fa (catV (opds cl.args.toList env) fb))).gives c.ρ m p v m' q := h
          have hall := catV_arr h1 (catV_arr hargs h2)
          cases hx0 : extNo P fid with
          | zero =>
            have h : (Nat.rec (cf fid (catV fa (catV (opds cl.args.toList env) fb))) (fun n _ => (extR n (catV fa (catV (opds cl.args.toList env) fb))).thn M.pure) (extNo P fid) : M V).gives c.ρ m p v m' q := h
            rw [hx0] at h
            have h4 := hcf fid _ c m m' w p q v (as ++ (cl.args.map a.eval ++ bs)) rfl hm hp he.glob hall h
            refine EffR.of_call h4 ?_
            have hrun := run_callFunc (w := w) h4.1 (as ++ (cl.args.map a.eval ++ bs))
            unfold execOp
            rw [ho]
            simp [resolve, hc, hx, Deferred.ofValue, invoke, hrun]
          | succ n =>
            have h : (Nat.rec (cf fid (catV fa (catV (opds cl.args.toList env) fb))) (fun n _ => (extR n (catV fa (catV (opds cl.args.toList env) fb))).thn M.pure) (extNo P fid) : M V).gives c.ρ m p v m' q := h
            rw [hx0] at h
            obtain ⟨v1, p1, h5, h6⟩ := R.gives_thn (show ((extR n (catV fa (catV (opds cl.args.toList env) fb))).thn M.pure).gives c.ρ m p v m' q from h)
            obtain ⟨rfl, rfl, rfl⟩ := M.gives_pure h6
            obtain ⟨hq, z, hrun, hz⟩ := ext_ok (w := w) hp hx0 hall h5
            intro K Q hK
            unfold Oper.wp
            have hex : (execOp a.eval o).run P w = .ok (.value z) w := by
              unfold execOp
              rw [ho]
              simp [resolve, hc, hx, Deferred.ofValue, invoke, hrun]
            rw [hex]
            exact hK c w z hq (Step.refl hm) hz
        case method nm =>
          have h : (onHead (catV fa (opds cl.args.toList env)) (fun r l => invokeM P cf nm r l) (M.fail "call")).gives c.ρ m p v m' q := h
          have hall := catV_arr h1 hargs
          cases hl : catV fa (opds cl.args.toList env) with
          | nil => rw [hl] at h; exact (M.gives_fail (s := "call") h).elim
          | cons r rest =>
            rw [hl] at h hall
            obtain ⟨R', rest', hR, hr, hrest⟩ := VRs.cons_iff.1 hall
            obtain ⟨g', args', g2, g3⟩ := invoke_ok (w := w) (args := rest'.toArray) hm hp he.glob hcf hr (by simpa using hrest) (show (invokeM P cf nm r rest).gives c.ρ m p v m' q from h)
            refine EffR.of_call g2 ?_
            have harr : as ++ cl.args.map a.eval = #[R'] ++ rest'.toArray := by
              apply Array.ext'
              rw [hR]
              simp
            have hx0 : (as ++ cl.args.map a.eval)[0]? = some R' := by rw [harr, ← Array.getElem?_toList]; simp
            have hx1 : (as ++ cl.args.map a.eval).extract 1 (as ++ cl.args.map a.eval).size = rest'.toArray := by
              rw [harr]
              apply Array.ext'
              simp
            unfold execOp
            rw [ho]
            simp only [resolve, hc, hx, Deferred.ofValue, Sem.run_bind, Sem.run_pure, Result.andThen_ok, invoke, hx0, hx1, g3]
    | invoke r nm =>
      rw [hc] at hk
      have hk : Kd.ef (invokeM P cf nm (opd r env) (opds cl.args.toList env)) = .ef f := hk
      simp only [Kd.ef.injEq] at hk; subst hk
      obtain ⟨g, args', h2, h3⟩ := invoke_ok hm hp he.glob hcf (opd_ok he r) hargs h
      refine EffR.of_call h2 ?_
      unfold execOp
      rw [ho]
      have hx0 : (#[a.eval r] ++ Array.map a.eval cl.args)[0]? = some (a.eval r) := by rw [← Array.getElem?_toList]; simp
      have hx1 : (Array.map a.eval cl.args).extract 0 cl.args.size = Array.map a.eval cl.args := by
        have := Array.extract_size (xs := Array.map a.eval cl.args)
        rwa [Array.size_map] at this
      simp [resolve, hc, invoke, hx0, hx1, h3]
    | builtin b =>
      rw [hc] at hk
      cases b <;> first | exact (Kd.rd_ef hk).elim | (have hk : Kd.ef (M.fail "an operation") = .ef f := hk; simp only [Kd.ef.injEq] at hk; subst hk; exact none h) | skip
      case append =>
        have hk : Kd.ef (onT cl.argTypes.toList (fun t us => on2 (opds cl.args.toList env) (appendT P t us) (M.fail "append")) (M.fail "append")) = .ef f := hk
        simp only [Kd.ef.injEq] at hk; subst hk
        obtain ⟨t, us, ht, h1⟩ := onTM_gives h
        obtain ⟨x, y, r, hx, h2⟩ := on2_gives h1
        obtain ⟨X, Y, hX, hY, hxr, hyr⟩ := head2_arr hargs hx
        obtain ⟨rfl, h3⟩ := appendT_ok (ty := o.type) hm ht hX hY hxr hyr h2
        exact EffR.of_value hp h3 (by unfold execOp; rw [ho]; simp [resolve, hc, invoke, builtin])
      case copy =>
        have hk : Kd.ef (onT cl.argTypes.toList (fun t _ => on2 (opds cl.args.toList env) (copyM P t) (M.fail "copy")) (M.fail "copy")) = .ef f := hk
        simp only [Kd.ef.injEq] at hk; subst hk
        obtain ⟨t, us, ht, h1⟩ := onTM_gives h
        obtain ⟨x, y, r, hx, h2⟩ := on2_gives h1
        obtain ⟨X, Y, hX, hY, hxr, hyr⟩ := head2_arr hargs hx
        obtain ⟨rfl, h3⟩ := copyM_ok (ty := o.type) (ts := cl.argTypes) hm (by rw [← Array.getElem?_toList, ht]; rfl) hX hY hxr hyr h2
        exact EffR.of_value hp h3 (by unfold execOp; rw [ho]; simp [resolve, hc, invoke, builtin])
      case delete =>
        have hk : Kd.ef (onT cl.argTypes.toList (fun t _ => on2 (opds cl.args.toList env) (deleteM P t) (M.fail "delete")) (M.fail "delete")) = .ef f := hk
        simp only [Kd.ef.injEq] at hk; subst hk
        obtain ⟨t, us, ht, h1⟩ := onTM_gives h
        obtain ⟨x, y, r, hx, h2⟩ := on2_gives h1
        obtain ⟨X, Y, hX, hY, hxr, hyr⟩ := head2_arr hargs hx
        obtain ⟨h0, h3⟩ := delete_ok (ty := o.type) (ts := cl.argTypes) hm hp (by rw [← Array.getElem?_toList, ht]; rfl) hX hY hxr hyr h2
        exact EffR.of_value h0 h3 (by unfold execOp; rw [ho]; simp [resolve, hc, invoke, builtin])
end ops

end Go.Sy

/-
  What is proved here: a row of operations in the order of the text.
  Conditions: none.
-/
namespace Go.Sy

section ops
variable {P : Program} {c : Cx} {m m' : Mem} {w : World} {p q : Pc} {n : Nat} {env env' : Env} {a : Act}

/-- behind a piece: the memory 'm'', the slots 'env'' -/
def After (c : Cx) (m : Mem) (w : World) (m' : Mem) (n : Nat) (env' : Env) (a a' : Act) (w' : World) : Prop :=
  ∃ c', Step c m w c' m' w' ∧ EnvR c' n env' a' ∧ a'.defers = a.defers

theorem put_defers (a : Act) (d : Option Nat) (v : Value) : (a.put d v).defers = a.defers := by cases d <;> rfl

theorem opM_ok (hm : MemR c m w) (hp : PcR c.ρ p) (he : EnvR c n env a) {cf : FuncId → List V → M V} (hcf : CallsOK P c.ρ cf) {o : Oper} (h : (opM o P cf n env).gives c.ρ m p env' m' q) :
    ∀ (K : Act → World → Prop) (Q : Exit → Act → World → Prop), (∀ a' w', PcR c.ρ q → After c m w m' n env' a a' w' → K a' w') → o.wp P a w K Q := by
  unfold opM at h
  cases hk : evKind o.op P cf env with
  | rd f =>
    rw [hk] at h
    obtain ⟨v, p1, h1, h2⟩ := R.gives_thn (show (f.thn (putM o.dst n env)).gives c.ρ m p env' m' q from h)
    obtain ⟨h3, z, h4, h5⟩ := rd_ok hm hp he hk h1
    obtain ⟨rfl, rfl, h6⟩ := putM_ok (w := w) hm he h5 h2
    intro K Q hK
    unfold Oper.wp
    rw [h4]
    exact hK _ _ h3 ⟨c, Step.refl hm, h6, put_defers _ _ _⟩
  | al f =>
    rw [hk] at h
    obtain ⟨v, m1, p1, h1, h2⟩ := M.gives_bnd (show ((allocM f).bnd (putM o.dst n env)).gives c.ρ m p env' m' q from h)
    obtain ⟨bs, p2, h3, h4⟩ := R.gives_thn (show (f.thn fun bs => (newBlk bs.1).bnd fun i => M.pure (bs.2.val i)).gives c.ρ m p v m1 p1 from h1)
    obtain ⟨i, m2, p3, h5, h6⟩ := M.gives_bnd h4
    obtain ⟨rfl, rfl, rfl⟩ := newBlk_gives h5
    obtain ⟨rfl, rfl, rfl⟩ := M.gives_pure h6
    obtain ⟨rfl, ob, z, h7, h8, h9⟩ := al_ok (w := w) hp he hk h3
    have s1 := Step.new hm h8
    rw [hm.nb] at h9
    obtain ⟨rfl, rfl, h10⟩ := putM_ok (c := c.addB w) s1.rel (he.mono s1.le) h9 (show (putM o.dst n env _).gives (c.addB w).ρ _ _ env' m' q from h2)
    intro K Q hK
    unfold Oper.wp
    rw [h7]
    exact hK _ _ hp ⟨_, s1, h10, put_defers _ _ _⟩
  | ef f =>
    rw [hk] at h
    obtain ⟨v, m1, p1, h1, h2⟩ := M.gives_bnd (show (f.bnd (putM o.dst n env)).gives c.ρ m p env' m' q from h)
    have h4 := ef_ok hm hp he hcf hk h1
    have hmm : m' = m1 ∧ q = p1 := by
      cases hd : o.dst with
      | none => rw [hd] at h2; obtain ⟨_, rfl, rfl⟩ := M.gives_pure (show (M.pure env).gives c.ρ m1 p1 env' m' q from h2); exact ⟨rfl, rfl⟩
      | some d =>
        rw [hd] at h2
        obtain ⟨_, h5⟩ := M.gives_if (show (selB (Nat.blt d n) (M.pure (env.put d v)) (M.fail "a slot beyond the frame")).gives c.ρ m1 p1 env' m' q from h2)
        obtain ⟨_, rfl, rfl⟩ := M.gives_pure h5
        exact ⟨rfl, rfl⟩
    obtain ⟨rfl, rfl⟩ := hmm
    refine fun K Q hK => h4 K Q fun c' w' z hq h5 h6 => ?_
    have h2' : (putM o.dst n env v).gives c'.ρ m' q env' m' q := by rw [h5.le.ρ]; exact h2
    obtain ⟨_, _, h7⟩ := putM_ok h5.rel (he.mono h5.le) h6 h2'
    exact hK _ _ hq ⟨c', h5, h7, put_defers _ _ _⟩
end ops

end Go.Sy

/-
  What is proved here: guarded operations, and a region in the order of the text.
  Conditions: none.
-/
namespace Go.Sy

section ops
variable {P : Program} {c : Cx} {m m' : Mem} {w : World} {p q : Pc} {n : Nat} {env env' : Env} {a : Act} {ops : Array Oper}

/-- the bool that a value is -/
def boolOf : Value → Option Bool
  | .bool b => some b
  | _ => none

theorem guardV_ok (hp : PcR c.ρ p) {v : V} {x : Value} {want b : Bool} (hv : VR c v x) (h : (guardV v want).gives c.ρ m p b q) :
    PcR c.ρ q ∧ (boolOf x == some want) = b := by
  cases v <;> first | exact (R.gives_fail (s := "guard") h).elim | skip
  case bool e =>
    rw [VR.bool] at hv; subst hv
    obtain ⟨u, p1, h1, h2⟩ := R.gives_bnd (show ((decR e).bnd fun v => R.pure (eqB v want)).gives c.ρ m p b q from h)
    obtain ⟨h3, h4⟩ := decR_gives hp h1
    obtain ⟨rfl, rfl⟩ := R.gives_pure h2
    refine ⟨h4, ?_⟩
    show (some (e.den c.ρ) == some want) = _
    rw [h3]
    cases u <;> cases want <;> rfl
  all_goals
    obtain ⟨rfl, rfl⟩ := R.gives_pure (show (R.pure false).gives c.ρ m p b q from h)
    refine ⟨hp, ?_⟩
    have hx : ∀ b, x ≠ .bool b := by rintro b rfl; revert hv; unfold VR; simp
    cases x <;> first | rfl | exact absurd rfl (hx _)

theorem guardR_ok (hp : PcR c.ρ p) (he : EnvR c n env a) {g : Nat × Bool} {b : Bool} (h : (guardR ops g n env).gives c.ρ m p b q) :
    PcR c.ρ q ∧ (yielded ops a.tmps g.1 == some g.2) = b := by
  unfold guardR at h
  cases hs : guardSlot ops g.1 with
  | none =>
    rw [hs] at h
    obtain ⟨rfl, rfl⟩ := R.gives_pure (show (R.pure false).gives c.ρ m p b q from h)
    have hs : (ops[g.1]?).bind (·.dst) = none := hs
    exact ⟨hp, by simp [yielded, hs]⟩
  | some d =>
    rw [hs] at h
    have hs : (ops[g.1]?).bind (·.dst) = some d := hs
    obtain ⟨h1, h2⟩ := R.gives_if (show (selB (Nat.blt d n) (guardV (env d) g.2) (R.fail "guard")).gives c.ρ m p b q from h)
    rw [blt_iff] at h1
    have hd : d < a.tmps.size := by rw [he.size]; exact h1
    obtain ⟨h3, h4⟩ := guardV_ok hp (he.slot d) h2
    refine ⟨h3, ?_⟩
    rw [← h4]
    have hg : a.tmps[d]? = some (a.tmps.getD d undef) := by simp [Array.getD, hd]
    unfold yielded
    rw [hs]
    show ((match a.tmps[d]? with | some (.bool b) => some b | _ => none) == some g.2) = _
    rw [hg]
    cases a.tmps.getD d undef <;> rfl

/-- what a guarded operation does, in the middle of a row -/
theorem opG_ok (hm : MemR c m w) (hp : PcR c.ρ p) (he : EnvR c n env a) {cf : FuncId → List V → M V} (hcf : CallsOK P c.ρ cf) {o : Oper} (h : (opG ops o P cf n env).gives c.ρ m p env' m' q) :
    ∀ (K : Act → World → Prop) (Q : Exit → Act → World → Prop), (∀ a' w', PcR c.ρ q → After c m w m' n env' a a' w' → K a' w') →
      if Region.wanted o (yielded ops a.tmps) then o.wp P a w K Q ∨ (o.asks P a w ∧ LetsOut Q) else K (a.put o.dst undef) w := by
  unfold opG at h
  cases hg : o.guard with
  | none =>
    rw [hg] at h
    have h2 := opM_ok hm hp he hcf (show (opM o P cf n env).gives c.ρ m p env' m' q from h)
    intro K Q hK
    have : Region.wanted o (yielded ops a.tmps) = true := by unfold Region.wanted; rw [hg]
    rw [if_pos this]
    exact .inl (h2 K Q hK)
  | some g =>
    rw [hg] at h
    obtain ⟨b, p1, h1, h2⟩ := R.gives_thn (show ((guardR ops g n env).thn fun w => (Bool.rec (putM o.dst n env undefV) (opM o P cf n env) w : M Env)).gives c.ρ m p env' m' q from h)
    obtain ⟨h3, h4⟩ := guardR_ok hp he h1
    have hw : Region.wanted o (yielded ops a.tmps) = b := by unfold Region.wanted; rw [hg]; exact h4
    cases b with
    | true =>
      have h6 := opM_ok hm h3 he hcf (show (opM o P cf n env).gives c.ρ m p1 env' m' q from h2)
      intro K Q hK
      rw [if_pos hw]
      exact .inl (h6 K Q hK)
    | false =>
      obtain ⟨rfl, rfl, h5⟩ := putM_ok hm he VR.undef (show (putM o.dst n env undefV).gives c.ρ m p1 env' m' q from h2)
      intro K Q hK
      rw [if_neg (by rw [hw]; simp)]
      exact hK _ _ h3 ⟨c, Step.refl hm, h5, put_defers _ _ _⟩

theorem After.trans {m1 : Mem} {a1 : Act} {w1 : World} {a2 : Act} {w2 : World} {c1 : Cx} (s : Step c m w c1 m1 w1) (d : a1.defers = a.defers) (h : After c1 m1 w1 m' n env' a1 a2 w2) : After c m w m' n env' a a2 w2 := by
  obtain ⟨c', h1, h2, h3⟩ := h
  exact ⟨c', s.trans h1, h2, h3.trans d⟩

theorem evSeq_ok {cf : FuncId → List V → M V} {ρ : Nat → Int} (hcf : CallsOK P ρ cf) : ∀ {l : List Oper} {c : Cx} {m m' : Mem} {w : World} {p q : Pc} {env env' : Env} {a : Act}, c.ρ = ρ → MemR c m w → PcR c.ρ p → EnvR c n env a → (evSeq l ops P cf n env).gives c.ρ m p env' m' q →
    ∀ (Q : Exit → Act → World → Prop), (∀ a' w', PcR c.ρ q → After c m w m' n env' a a' w' → Q .normal a' w') → wpList P ops Q l a w
  | [], c, m, m', w, p, q, env, env', a, _, hm, hp, he, h => by
    obtain ⟨rfl, rfl, rfl⟩ := M.gives_pure (show (M.pure env).gives c.ρ m p env' m' q from h)
    exact fun Q hQ => hQ _ _ hp ⟨c, Step.refl hm, he, rfl⟩
  | o :: l, c, m, m', w, p, q, env, env', a, hρ, hm, hp, he, h => by
    obtain ⟨env1, m1, p1, h1, h2⟩ := M.gives_bnd (show ((opG ops o P cf n env).bnd (evSeq l ops P cf n)).gives c.ρ m p env' m' q from h)
    intro Q hQ
    have h4 := opG_ok hm hp he (by rw [hρ]; exact hcf) h1 (wpList P ops Q l) Q (fun a1 w1 hp1 hA => by
      obtain ⟨c1, s1, he1, hd⟩ := hA
      have hr := s1.le.ρ
      exact evSeq_ok hcf (hr.trans hρ) s1.rel (by rw [hr]; exact hp1) he1 (by rw [hr]; exact h2) Q fun a2 w2 hq hA2 => hQ a2 w2 (by rw [← hr]; exact hq) (hA2.trans s1 hd))
    exact h4
end ops

end Go.Sy

/-
  What is proved here: an operation looks at its own slots alone; what an operation does, whatever the order.
  Conditions: none.
-/
namespace Go.Sy

section congr
variable {env env' : Env}

theorem opd_congr {x : Operand} (h : ∀ t, x = .tmp t → env' t = env t) : opd x env' = opd x env := by
  cases x with
  | tmp t => exact h t rfl
  | _ => rfl

theorem opds_congr : ∀ {l : List Operand}, (∀ t, Operand.tmp t ∈ l → env' t = env t) → opds l env' = opds l env
  | [], _ => rfl
  | x :: l, h => by
    show opd x env' :: opds l env' = opd x env :: opds l env
    rw [opd_congr (fun t ht => h t (ht ▸ .head _)), opds_congr (fun t ht => h t (.tail _ ht))]

theorem partsV_congr : ∀ {l : List (Nat × Operand)}, (∀ t, Operand.tmp t ∈ l.map (·.2) → env' t = env t) → partsV l env' = partsV l env
  | [], _ => rfl
  | x :: l, h => by
    show (x.1, opd x.2 env') :: partsV l env' = (x.1, opd x.2 env) :: partsV l env
    rw [opd_congr (fun t ht => h t (by rw [← ht]; exact .head _)), partsV_congr (fun t ht => h t (.tail _ ht))]

theorem optV_congr {x : Option Operand} (h : ∀ t, x = some (.tmp t) → env' t = env t) : optV x env' = optV x env := by
  cases x with
  | none => rfl
  | some x =>
    show some (opd x env') = some (opd x env)
    rw [opd_congr (fun t ht => h t (by rw [ht]))]

theorem evKind_congr {P : Program} {cf : FuncId → List V → M V} {op : Op} (h : ∀ t, Operand.tmp t ∈ op.operands → env' t = env t) : evKind op P cf env' = evKind op P cf env := by
  have o1 : ∀ {x : Operand}, x ∈ op.operands → opd x env' = opd x env := fun hx => opd_congr fun t ht => h t (ht ▸ hx)
  cases op with
  | move x =>
    show hMove x P cf env' = hMove x P cf env
    simp only [hMove, o1 (x := x) (by simp [Op.operands])]
  | assign x =>
    show hMove x P cf env' = hMove x P cf env
    simp only [hMove, o1 (x := x) (by simp [Op.operands])]
  | pick c a b =>
    show hPick c a b P cf env' = hPick c a b P cf env
    simp only [hPick, o1 (x := c) (by simp [Op.operands]), o1 (x := a) (by simp [Op.operands]), o1 (x := b) (by simp [Op.operands])]
  | alloc t => rfl
  | box t x =>
    show hBox t x P cf env' = hBox t x P cf env
    simp only [hBox, o1 (x := x) (by simp [Op.operands])]
  | insert t m k x =>
    show hUpdate t m k x P cf env' = hUpdate t m k x P cf env
    simp only [hUpdate, o1 (x := m) (by simp [Op.operands]), o1 (x := k) (by simp [Op.operands]), o1 (x := x) (by simp [Op.operands])]
  | load t a =>
    show hLoad t a P cf env' = hLoad t a P cf env
    simp only [hLoad, o1 (x := a) (by simp [Op.operands])]
  | store t a x =>
    show hStore t a x P cf env' = hStore t a x P cf env
    simp only [hStore, o1 (x := a) (by simp [Op.operands]), o1 (x := x) (by simp [Op.operands])]
  | nilCheck x =>
    show hNilCheck x P cf env' = hNilCheck x P cf env
    simp only [hNilCheck, o1 (x := x) (by simp [Op.operands])]
  | binOp op t x y u =>
    show hBin op t x y u P cf env' = hBin op t x y u P cf env
    simp only [hBin, o1 (x := x) (by simp [Op.operands]), o1 (x := y) (by simp [Op.operands])]
  | unOp op t x =>
    show hUn op t x P cf env' = hUn op t x P cf env
    simp only [hUn, o1 (x := x) (by simp [Op.operands])]
  | convert s d x =>
    show hConv s d x P cf env' = hConv s d x P cf env
    simp only [hConv, o1 (x := x) (by simp [Op.operands])]
  | makeInterface t x =>
    show hIface t x P cf env' = hIface t x P cf env
    simp only [hIface, o1 (x := x) (by simp [Op.operands])]
  | makeSlice t l c =>
    show hMakeSlice t l c P cf env' = hMakeSlice t l c P cf env
    simp only [hMakeSlice, o1 (x := l) (by simp [Op.operands]), o1 (x := c) (by simp [Op.operands])]
  | fieldAddr t x f =>
    show hFieldAddr t x f P cf env' = hFieldAddr t x f P cf env
    simp only [hFieldAddr, o1 (x := x) (by simp [Op.operands])]
  | field t x f =>
    show hField t x f P cf env' = hField t x f P cf env
    simp only [hField, o1 (x := x) (by simp [Op.operands])]
  | indexAddr t x i =>
    show hIndexAddr t x i P cf env' = hIndexAddr t x i P cf env
    simp only [hIndexAddr, o1 (x := x) (by simp [Op.operands]), o1 (x := i) (by simp [Op.operands])]
  | index t x i =>
    show hIndex t x i P cf env' = hIndex t x i P cf env
    simp only [hIndex, o1 (x := x) (by simp [Op.operands]), o1 (x := i) (by simp [Op.operands])]
  | lookup t x i ok =>
    show hLookup t x i ok P cf env' = hLookup t x i ok P cf env
    simp only [hLookup, o1 (x := x) (by simp [Op.operands]), o1 (x := i) (by simp [Op.operands])]
  | mapUpdate t m k x =>
    show hUpdate t m k x P cf env' = hUpdate t m k x P cf env
    simp only [hUpdate, o1 (x := m) (by simp [Op.operands]), o1 (x := k) (by simp [Op.operands]), o1 (x := x) (by simp [Op.operands])]
  | mapEntry t m k =>
    show hEntry t m k P cf env' = hEntry t m k P cf env
    simp only [hEntry, o1 (x := m) (by simp [Op.operands]), o1 (x := k) (by simp [Op.operands])]
  | entryStore t m s x =>
    show hEntStore t m s x P cf env' = hEntStore t m s x P cf env
    simp only [hEntStore, o1 (x := m) (by simp [Op.operands]), o1 (x := s) (by simp [Op.operands]), o1 (x := x) (by simp [Op.operands])]
  | typeAssert x t u ok =>
    show hAssert x t u ok P cf env' = hAssert x t u ok P cf env
    simp only [hAssert, o1 (x := x) (by simp [Op.operands])]
  | extract x i =>
    show hExtract x i P cf env' = hExtract x i P cf env
    simp only [hExtract, o1 (x := x) (by simp [Op.operands])]
  | build t ps =>
    show hBuild t ps P cf env' = hBuild t ps P cf env
    simp only [hBuild]
    rw [partsV_congr (fun t ht => h t (by simpa [Op.operands] using ht))]
  | buildSlice t n ps =>
    show hBuildSlice t n ps P cf env' = hBuildSlice t n ps P cf env
    simp only [hBuildSlice]
    rw [partsV_congr (fun t ht => h t (by simpa [Op.operands] using ht))]
  | makeFunc fn a b =>
    show hFunc fn a b P cf env' = hFunc fn a b P cf env
    simp only [hFunc]
    rw [opds_congr (l := a.toList) (fun t ht => h t (by simp at ht; simp [Op.operands, ht])), opds_congr (l := b.toList) (fun t ht => h t (by simp at ht; simp [Op.operands, ht]))]
  | makeMap t r =>
    cases r with
    | none => rfl
    | some x =>
      show hMakeMap t (some x) P cf env' = hMakeMap t (some x) P cf env
      simp only [hMakeMap, o1 (x := x) (by simp [Op.operands])]
  | slice t x l u m =>
    show hSlice t x l u m P cf env' = hSlice t x l u m P cf env
    simp only [hSlice, o1 (x := x) (by simp [Op.operands])]
    rw [optV_congr (x := l) (fun t ht => h t (by simp [Op.operands, ht])), optV_congr (x := u) (fun t ht => h t (by simp [Op.operands, ht])), optV_congr (x := m) (fun t ht => h t (by simp [Op.operands, ht]))]
  | call c =>
    have ha : opds c.args.toList env' = opds c.args.toList env := opds_congr fun t ht => h t (by
      simp at ht
      simp [Op.operands, Call.operands, ht])
    show hCall c P cf env' = hCall c P cf env
    obtain ⟨ce, args, ts⟩ := c
    cases ce with
    | value f =>
      show Kd.ef (callV P cf (opd f env') (opds args.toList env')) = Kd.ef (callV P cf (opd f env) (opds args.toList env))
      rw [ha, o1 (x := f) (by simp [Op.operands, Call.operands])]
    | invoke r nm =>
      show Kd.ef (invokeM P cf nm (opd r env') (opds args.toList env')) = Kd.ef (invokeM P cf nm (opd r env) (opds args.toList env))
      rw [ha, o1 (x := r) (by simp [Op.operands, Call.operands])]
    | builtin b =>
      have ha : opds args.toList env' = opds args.toList env := ha
      show hBuiltin b ts args P cf env' = hBuiltin b ts args P cf env
      cases b <;> (first | rfl | (show hLen ts args P cf env' = hLen ts args P cf env; simp only [hLen, ha]) | (show hCap ts args P cf env' = hCap ts args P cf env; simp only [hCap, ha]) | (show hMin _ args P cf env' = hMin _ args P cf env; simp only [hMin, ha]) | (show hAppend ts args P cf env' = hAppend ts args P cf env; simp only [hAppend, ha]) | (show hCopy ts args P cf env' = hCopy ts args P cf env; simp only [hCopy, ha]) | (show hDelete ts args P cf env' = hDelete ts args P cf env; simp only [hDelete, ha]))
  | _ => rfl
end congr

/-! ### what an operation does, whatever the order -/

section does
variable {P : Program} {ρ : Nat → Int} {ops : Array Oper} {n : Nat} {o : Oper} {env : Env}

theorem mem_looks {t : Nat} (h : Operand.tmp t ∈ o.op.operands) : t ∈ looks ops o := by
  unfold looks tmpsOf
  refine List.mem_append.2 (.inl (List.mem_filterMap.2 ⟨.tmp t, by simpa using h, rfl⟩))

/-- the slots that an operation looks at stand for the frame's -/
structure EnvL (c : Cx) (n : Nat) (ops : Array Oper) (o : Oper) (env : Env) (a : Act) : Prop where
  size : a.tmps.size = n
  slot : ∀ t ∈ looks ops o, VR c (env t) (a.tmps.getD t undef)
  glob : GlobR c

def lookEnv (ops : Array Oper) (o : Oper) (env : Env) : Env := fun t => if t ∈ looks ops o then env t else .bad

theorem EnvL.full {c : Cx} {a : Act} (h : EnvL c n ops o env a) : EnvR c n (lookEnv ops o env) a :=
  ⟨h.size, fun j => by
    unfold lookEnv
    split
    · rename_i hj; exact h.slot j hj
    · exact VR.bad, h.glob⟩

theorem look_kind {cf : FuncId → List V → M V} : evKind o.op P cf (lookEnv ops o env) = evKind o.op P cf env :=
  evKind_congr fun _ ht => if_pos (mem_looks ht)

theorem look_guard {g : Nat × Bool} (hg : o.guard = some g) : guardR ops g n (lookEnv ops o env) = guardR ops g n env := by
  unfold guardR
  cases hs : guardSlot ops g.1 with
  | none => rfl
  | some d =>
    have hd : d ∈ looks ops o := by
      unfold looks
      rw [hg]
      exact List.mem_append.2 (.inr (by simp [hs]))
    show selB (Nat.blt d n) (guardV (lookEnv ops o env d) g.2) (R.fail "guard") = selB (Nat.blt d n) (guardV (env d) g.2) (R.fail "guard")
    rw [show lookEnv ops o env d = env d from if_pos hd]

/-- from the memory 'M' on to 'M'', the operation's value standing for 'v' -/
def Does (P : Program) (ρ : Nat → Int) (ops : Array Oper) (n : Nat) (o : Oper) (env : Env) (u : Mem) (v : V) (u' : Mem) : Prop :=
  ∀ ⦃c : Cx⦄ ⦃w : World⦄ ⦃a : Act⦄, c.ρ = ρ → MemR c u w → EnvL c n ops o env a → ∀ (K : Act → World → Prop) (Q : Exit → Act → World → Prop),
    (∀ c' w' z, Step c u w c' u' w' → VR c' v z → K (a.put o.dst z) w') →
      if Region.wanted o (yielded ops a.tmps) then o.wp P a w K Q ∨ (o.asks P a w ∧ LetsOut Q) else K (a.put o.dst undef) w

theorem guardO_ok {m : Mem} {p q : Pc} {b : Bool} (hp : PcR ρ p) (h : (guardO o.guard (fun g => guardR ops g n env)).gives ρ m p b q) {c : Cx} {a : Act} (hc : c.ρ = ρ) (he : EnvL c n ops o env a) :
    Region.wanted o (yielded ops a.tmps) = b := by
  subst hc
  cases hg : o.guard with
  | none =>
    rw [hg] at h
    obtain ⟨rfl, rfl⟩ := R.gives_pure (show (R.pure true).gives c.ρ m p b q from h)
    unfold Region.wanted; rw [hg]
  | some g =>
    rw [hg] at h
    have h : (guardR ops g n env).gives c.ρ m p b q := h
    rw [← look_guard hg] at h
    obtain ⟨_, h2⟩ := guardR_ok hp he.full h
    unfold Region.wanted; rw [hg]; exact h2

theorem does_no {m : Mem} {p q : Pc} (hp : PcR ρ p) (h : (guardO o.guard (fun g => guardR ops g n env)).gives ρ m p false q) (u : Mem) : Does P ρ ops n o env u undefV u := by
  intro c w a hc hm he K Q hK
  rw [if_neg (by rw [guardO_ok hp h hc he]; simp)]
  exact hK c w undef (Step.refl hm) VR.undef

theorem does_rd {cf : FuncId → List V → M V} {m : Mem} {p q p1 q1 : Pc} {f : R V} {v : V} {u : Mem} (hp : PcR ρ p) (h : (guardO o.guard (fun g => guardR ops g n env)).gives ρ m p true q) (hk : evKind o.op P cf env = .rd f) (hp1 : PcR ρ p1) (hf : f.gives ρ u p1 v q1) :
    Does P ρ ops n o env u v u := by
  intro c w a hc hm he K Q hK
  rw [if_pos (guardO_ok hp h hc he)]
  subst hc
  rw [← look_kind (ops := ops) (o := o)] at hk
  obtain ⟨_, z, h4, h5⟩ := rd_ok hm hp1 he.full hk hf
  refine .inl ?_
  unfold Oper.wp
  rw [h4]
  exact hK c w z (Step.refl hm) h5

theorem does_al {cf : FuncId → List V → M V} {m : Mem} {p q p1 q1 : Pc} {f : R (Blk × Shp)} {v : V} {u u' : Mem} (hp : PcR ρ p) (h : (guardO o.guard (fun g => guardR ops g n env)).gives ρ m p true q) (hk : evKind o.op P cf env = .al f) (hp1 : PcR ρ p1) (hf : (allocM f).gives ρ u p1 v u' q1) :
    Does P ρ ops n o env u v u' := by
  intro c w a hc hm he K Q hK
  rw [if_pos (guardO_ok hp h hc he)]
  subst hc
  rw [← look_kind (ops := ops) (o := o)] at hk
  obtain ⟨bs, p2, h3, h4⟩ := R.gives_thn (show (f.thn fun bs => (newBlk bs.1).bnd fun i => M.pure (bs.2.val i)).gives c.ρ u p1 v u' q1 from hf)
  obtain ⟨i, m2, p3, h5, h6⟩ := M.gives_bnd h4
  obtain ⟨rfl, rfl, rfl⟩ := newBlk_gives h5
  obtain ⟨rfl, rfl, rfl⟩ := M.gives_pure h6
  obtain ⟨rfl, ob, z, h7, h8, h9⟩ := al_ok (w := w) hp1 he.full hk h3
  have s1 := Step.new hm h8
  rw [hm.nb] at h9
  refine .inl ?_
  unfold Oper.wp
  rw [h7]
  exact hK _ _ _ s1 h9

theorem does_ef {cf : FuncId → List V → M V} (hcf : CallsOK P ρ cf) {m : Mem} {p q p1 q1 : Pc} {f : M V} {v : V} {u u' : Mem} (hp : PcR ρ p) (h : (guardO o.guard (fun g => guardR ops g n env)).gives ρ m p true q) (hk : evKind o.op P cf env = .ef f) (hp1 : PcR ρ p1) (hf : f.gives ρ u p1 v u' q1) :
    Does P ρ ops n o env u v u' := by
  intro c w a hc hm he K Q hK
  rw [if_pos (guardO_ok hp h hc he)]
  subst hc
  rw [← look_kind (ops := ops) (o := o)] at hk
  exact .inl (ef_ok hm hp1 he.full hcf hk hf K Q fun c' w' z _ s1 hz => hK c' w' z s1 hz)
end does

/-! ### an entry of a literal map -/

/-- two keys are not one, whatever the memory -/
def Apart (P : Program) (kt : TypeId) (nb nt : Nat) (ρ : Nat → Int) (a b : V) : Prop :=
  ∀ (c : Cx) (w : World) (A B : Value), c.ρ = ρ → c.nb = nb → c.nt = nt → VR c a A → VR c b B → cmpK P kt w A B false

theorem bare_ok {c : Cx} {w : World} : MemR c ⟨.nil, c.nb, .nil, c.nt⟩ w :=
  ⟨rfl, rfl, fun i b h => by simp [Tr.get_nil] at h, fun i j b b' h => by simp [Tr.get_nil] at h, fun t n h => by simp [Tr.get_nil] at h⟩

theorem isNo_ok {P : Program} {kt : TypeId} (ht : keyOK P kt = true) {ρ : Nat → Int} {p : Pc} (hp : PcR ρ p) {nb nt : Nat} {a b : V} (h : isNo (keyEq P kt a b ⟨.nil, nb, .nil, nt⟩ p) = true) : Apart P kt nb nt ρ a b := by
  intro c w A B hρ hnb hnt hA hB
  subst hρ hnb hnt
  cases ht2 : keyEq P kt a b ⟨.nil, c.nb, .nil, c.nt⟩ p with
  | ret x =>
    rw [ht2] at h
    obtain ⟨v, q⟩ := x
    have h : notB v = true := h
    cases v with
    | true => exact nomatch h
    | false =>
      have hg : (keyEq P kt a b).gives c.ρ ⟨.nil, c.nb, .nil, c.nt⟩ p false q := by
        unfold R.gives; rw [ht2]; rfl
      exact (cmpK_of bare_ok hp ht hA hB hg).2
  | br c' x y => rw [ht2] at h; exact absurd (show false = true from h) (by simp)
  | fail s => rw [ht2] at h; exact absurd (show false = true from h) (by simp)

/-- the map's entries -/
def PmAt (u : Mem) (b : Nat) (es : List (V × V)) : Prop :=
  u.tr.get b = some (.pm es true) ∨ ∃ es1 k, u.tr.get b = some (.map es1 k true) ∧ es = es1.map fun e => (e.1, e.2.1)

theorem setB_eq (m : Mem) (i : Nat) (b : Blk) : setB m i b = ⟨m.tr.set i b, m.nb, m.tok, m.nt⟩ := rfl
theorem delB_eq (m : Mem) (i : Nat) : delB m i = ⟨m.tr.del i, m.nb, m.tok, m.nt⟩ := rfl

theorem KvR.of_es {c : Cx} : ∀ {es : List (V × V × Nat)} {es' : List MapEntry}, EsR c es es' → KvR c (es.map fun e => (e.1, e.2.1)) es'
  | [], [], _ => trivial
  | [], _ :: _, h => absurd h.1 (by simp)
  | _ :: _, [], h => absurd h.1 (by simp)
  | e :: es, e' :: es', h => by
    obtain ⟨e1, h1, h2, h3, _⟩ := h.2 0 e (by simp)
    simp at h1; subst h1
    exact ⟨h2, h3, KvR.of_es h.uncons.1⟩

theorem PmAt.rel {c : Cx} {u : Mem} {w : World} (hm : MemR c u w) {b : Nat} {es : List (V × V)} (h : PmAt u b es) : b < c.nb ∧ ∃ es' k, w.heap[(c.β b).1]? = some (.map es' k) ∧ PmR c es es'.toList := by
  rcases h with h | ⟨es1, k, h, rfl⟩
  · exact hm.blk b _ h
  · obtain ⟨h1, es', h2, h3⟩ := hm.blk b _ h
    exact ⟨h1, es', k, h2, es'.toList, .refl _, .of_es h3⟩

theorem PmAt.wr {u : Mem} {b : Nat} {es : List (V × V)} (h : PmAt u b es) : ∃ k, u.tr.get b = some k ∧ k.wrB = true := by
  rcases h with h | ⟨es1, k, h, _⟩
  · exact ⟨_, h, rfl⟩
  · exact ⟨_, h, rfl⟩

theorem KvR.mem {c : Cx} : ∀ {es : List (V × V)} {l : List MapEntry}, KvR c es l → ∀ e' ∈ l, ∃ e ∈ es, VR c e.1 e'.key ∧ VR c e.2 e'.val
  | [], [], _, _, h => nomatch h
  | e :: es, e' :: l, ⟨h1, h2, h3⟩, x, hx => by
    cases hx with
    | head => exact ⟨e, .head _, h1, h2⟩
    | tail _ hx => obtain ⟨u, k1, k2⟩ := h3.mem x hx; exact ⟨u, .tail _ k1, k2⟩
  | [], _ :: _, h, _, _ => h.elim
  | _ :: _, [], h, _, _ => h.elim

theorem KvR.push {c : Cx} {k v : V} {e : MapEntry} (hk : VR c k e.key) (hv : VR c v e.val) : ∀ {es : List (V × V)} {l : List MapEntry}, KvR c es l → KvR c (es ++ [(k, v)]) (l ++ [e])
  | [], [], _ => ⟨hk, hv, trivial⟩
  | _ :: _, _ :: _, ⟨h1, h2, h3⟩ => ⟨h1, h2, h3.push hk hv⟩
  | [], _ :: _, h => h.elim
  | _ :: _, [], h => h.elim

theorem PmR.push {c : Cx} {k v : V} {es : List (V × V)} {es' : Array MapEntry} {e : MapEntry} (h : PmR c es es'.toList) (hk : VR c k e.key) (hv : VR c v e.val) : PmR c (es ++ [(k, v)]) (es'.push e).toList := by
  obtain ⟨l', h1, h2⟩ := h
  refine ⟨l' ++ [e], ?_, h2.push hk hv⟩
  rw [Array.toList_push]
  exact h1.append_right [e]

section ins
variable {P : Program} {ρ : Nat → Int} {ops : Array Oper} {n : Nat} {o : Oper} {env : Env}

theorem look_ins : insOf o.op P (lookEnv ops o env) = insOf o.op P env := by
  have e : ∀ t, Operand.tmp t ∈ o.op.operands → lookEnv ops o env t = env t := fun t ht => if_pos (mem_looks ht)
  cases ho : o.op <;> try rfl
  case insert t mp k x =>
    rw [ho] at e
    have o1 : ∀ {x : Operand}, x ∈ (Op.insert t mp k x).operands → True := fun _ => trivial
    have e1 : opd mp (lookEnv ops o env) = opd mp env := opd_congr fun t ht => e t (by rw [← ht]; simp [Op.operands])
    have e2 : opd k (lookEnv ops o env) = opd k env := opd_congr fun t ht => e t (by rw [← ht]; simp [Op.operands])
    have e3 : opd x (lookEnv ops o env) = opd x env := opd_congr fun t ht => e t (by rw [← ht]; simp [Op.operands])
    show (Option.rec none (fun a => selB (keyFit P a.1 (opd k (lookEnv ops o env))) (onMap (opd mp (lookEnv ops o env)) (fun i => some ⟨a.1, i, opd k (lookEnv ops o env), opd x (lookEnv ops o env)⟩) none) none) (mapOf P t) : Option Ins) = Option.rec none (fun a => selB (keyFit P a.1 (opd k env)) (onMap (opd mp env) (fun i => some ⟨a.1, i, opd k env, opd x env⟩) none) none) (mapOf P t)
    rw [e1, e2, e3]

theorem insOf_some {x : Ins} (h : insOf o.op P env = some x) : ∃ t mp k y et, o.op = .insert t mp k y ∧ mapOf P t = some (x.kt, et) ∧ keyFit P x.kt (opd k env) = true ∧ opd mp env = .map x.b ∧ x.k = opd k env ∧ x.v = opd y env := by
  cases ho : o.op <;> rw [ho] at h <;> try exact nomatch (show none = some x from h)
  case insert t mp k y =>
    have h : (Option.rec none (fun a => selB (keyFit P a.1 (opd k env)) (onMap (opd mp env) (fun i => some ⟨a.1, i, opd k env, opd y env⟩) none) none) (mapOf P t) : Option Ins) = some x := h
    cases ha : mapOf P t with
    | none => rw [ha] at h; exact nomatch h
    | some a =>
      rw [ha] at h
      have h : selB (keyFit P a.1 (opd k env)) (onMap (opd mp env) (fun i => some (⟨a.1, i, opd k env, opd y env⟩ : Ins)) none) none = some x := h
      cases hf : keyFit P a.1 (opd k env) with
      | false => rw [hf] at h; exact nomatch h
      | true =>
        rw [hf] at h
        have h : onMap (opd mp env) (fun i => some (⟨a.1, i, opd k env, opd y env⟩ : Ins)) none = some x := h
        rcases onMap_cases (opd mp env) (fun i => some (⟨a.1, i, opd k env, opd y env⟩ : Ins)) none with ⟨i, h1, h2⟩ | h2 <;> rw [h2] at h
        · obtain rfl := Option.some.inj h
          exact ⟨t, mp, k, y, a.2, rfl, ha, hf, h1, rfl, rfl⟩
        · exact nomatch h

/-- the entry, laid -/
theorem does_ins {m u : Mem} {p q : Pc} {x : Ins} {es : List (V × V)} (hp : PcR ρ p) (h : (guardO o.guard (fun g => guardR ops g n env)).gives ρ m p true q) (hx : insOf o.op P env = some x) (hb : PmAt u x.b es)
    (hap : ∀ e ∈ es, Apart P x.kt u.nb u.nt ρ x.k e.1) : Does P ρ ops n o env u undefV (setB u x.b (.pm (es ++ [(x.k, x.v)]) true)) := by
  intro c w a hc hm he K Q hK
  rw [if_pos (guardO_ok hp h hc he)]
  subst hc
  refine .inl ?_
  rw [← look_ins (ops := ops)] at hx
  obtain ⟨t, mp, k, y, et, ho, ha, hfit, hmp, hk, hy⟩ := insOf_some hx
  obtain ⟨hu, hpl⟩ := mapOf_some ha
  have hf := he.full
  have vmp := opd_ok hf mp
  rw [hmp] at vmp
  have vk := opd_ok hf k
  have vy := opd_ok hf y
  rw [← hk] at vk
  rw [← hy] at vy
  rw [← hk] at hfit
  obtain ⟨hlt, es', kk, hh, hpm⟩ := hb.rel hm
  obtain ⟨_, hme⟩ := VR.map.1 vmp
  have hap2 : ∀ e ∈ es'.toList, cmpK P x.kt w (a.eval k) e.key false := by
    intro e he2
    obtain ⟨l', hperm, hkv⟩ := hpm
    obtain ⟨d, hd, hd1, _⟩ := hkv.mem e (hperm.mem_iff.2 he2)
    exact hap d hd c w _ _ rfl hm.nb hm.nt vk hd1
  obtain ⟨r, h1, h2⟩ := find_cmp (K := a.eval k) hpl (es := es'.toList) fun e he2 => ⟨false, hap2 e he2⟩
  have hr : r = none := by
    rcases h2 with ⟨h2, _⟩ | ⟨i, e, h3, h4, _⟩
    · exact h2
    · exact nomatch h4.one (hap2 e h3)
  subst hr
  have hlt2 : (c.β x.b).1 < w.heap.size := (Array.getElem?_eq_some_iff.1 hh).1
  obtain ⟨kb, hkb, hkw⟩ := hb.wr
  have hs : Step c u w c (setB u x.b (.pm (es ++ [(x.k, x.v)]) true)) (World.putObj w (c.β x.b).1 (.map (es'.push ⟨a.eval k, a.eval y, kk⟩) (kk + 1))) := by
    rw [setB_eq]
    exact Step.put hm hkb hkw ⟨_, kk + 1, putObj_same hlt2, hpm.push vk vy⟩ (by simp [World.putObj]) (fun j hj => putObj_other hj) rfl rfl rfl
  have hg : (getObj (c.β x.b).1).run P w = .ok (.map es' kk) w := run_getObj hh
  have hrun : (Instr.mapUpdate t (a.eval mp) (a.eval k) (a.eval y)).run P w = .ok () (World.putObj w (c.β x.b).1 (.map (es'.push ⟨a.eval k, a.eval y, kk⟩) (kk + 1))) := by
    rw [hme]
    simpa [Instr.mapUpdate, run_und hu, hg, checkKey_ok hpl vk hfit, h1] using run_setObj (P := P) hh
  exact EffR.of_unit (q := p) hp hs hrun (by unfold execOp; rw [ho]) K Q fun c' w' z _ s1 hz => hK c' w' z s1 hz
end ins

/-! ### values that are one -/

theorem andB_ok {a b : Bool} (h : andB a b = true) : a = true ∧ b = true := andB_iff.1 h

theorem eqE_ok {a b : E} (h : eqE a b = true) : a = b := by
  cases a <;> cases b <;> exact E.beq_eq h

theorem eqB_ok {a b : Bool} (h : eqB a b = true) : a = b := by cases a <;> cases b <;> first | rfl | (exact absurd h (by simp [eqB, notB]))

theorem eqBB_ok : ∀ {a b : B}, eqBB a b = true → a = b
  | .lit u, b, h => by
    cases b with
    | lit v => rw [eqB_ok (show eqB u v = true from h)]
    | _ => exact absurd (show false = true from h) (by simp)
  | .lt x y, b, h => by
    cases b with
    | lt z w => obtain ⟨h1, h2⟩ := andB_ok (show andB (eqE x z) (eqE y w) = true from h); rw [eqE_ok h1, eqE_ok h2]
    | _ => exact absurd (show false = true from h) (by simp)
  | .eq x y, b, h => by
    cases b with
    | eq z w => obtain ⟨h1, h2⟩ := andB_ok (show andB (eqE x z) (eqE y w) = true from h); rw [eqE_ok h1, eqE_ok h2]
    | _ => exact absurd (show false = true from h) (by simp)
  | .not a, b, h => by
    cases b with
    | not c => rw [eqBB_ok (show eqBB a c = true from h)]
    | _ => exact absurd (show false = true from h) (by simp)

theorem eqEs_ok : ∀ {a b : List E}, eqEs a b = true → a = b
  | [], b, h => by
    cases b with
    | nil => rfl
    | cons y r => exact absurd (show false = true from h) (by simp)
  | x :: l, b, h => by
    cases b with
    | nil => exact absurd (show false = true from h) (by simp)
    | cons y r => obtain ⟨h1, h2⟩ := andB_ok (show andB (eqE x y) (eqEs l r) = true from h); rw [eqE_ok h1, eqEs_ok h2]

theorem eqCp_ok {a b : Cp} (h : eqCp a b = true) : a = b := by
  cases a with
  | n c =>
    cases b with
    | n d => rw [(beq_iff c d).1 h]
    | t i k => exact absurd (show false = true from h) (by simp)
  | t i k =>
    cases b with
    | n d => exact absurd (show false = true from h) (by simp)
    | t j l => obtain ⟨h1, h2⟩ := andB_ok (show andB (Nat.beq i j) (Nat.beq k l) = true from h); rw [(beq_iff i j).1 h1, (beq_iff k l).1 h2]

theorem eqFn_ok {a b : Fn} (h : eqFn a b = true) : a = b := by
  cases a <;> first | exact absurd (show false = true from h) (by simp) | skip
  case func f =>
    cases b <;> first | exact absurd (show false = true from h) (by simp) | skip
    case func g => rw [(beq_iff f g).1 h]

theorem eqVV_ok (a : V) : ∀ b, eqVV a b = true → a = b := by
  refine V.rec (motive_1 := fun a => ∀ b, eqVV a b = true → a = b) (motive_2 := fun l => ∀ l' : List V, eqVV (.agg l) (.agg l') = true → l = l') ?_ ?_ ?_ ?_ ?_ ?_ ?_ ?_ ?_ ?_ ?_ ?_ ?_ ?_ ?_ ?_ ?_ ?_ ?_ ?_ ?_ a
  · intro x b h
    cases b with
    | bool y => rw [eqBB_ok (show eqBB x y = true from h)]
    | _ => exact absurd (show false = true from h) (by simp)
  · intro k e b h
    cases b with
    | int k' e' => obtain ⟨h1, h2⟩ := andB_ok (show andB (Nat.beq (kindNo k) (kindNo k')) (eqE e e') = true from h); rw [kindNo_inj h1, eqE_ok h2]
    | _ => exact absurd (show false = true from h) (by simp)
  · intro l b h
    cases b with
    | str l' => rw [eqEs_ok (show eqEs l l' = true from h)]
    | _ => exact absurd (show false = true from h) (by simp)
  · intro b h
    cases b with
    | nilPtr => rfl
    | _ => exact absurd (show false = true from h) (by simp)
  · intro i o b h
    cases b with
    | ptr i' o' => obtain ⟨h1, h2⟩ := andB_ok (show andB (Nat.beq i i') (Nat.beq o o') = true from h); rw [(beq_iff _ _).1 h1, (beq_iff _ _).1 h2]
    | _ => exact absurd (show false = true from h) (by simp)
  · intro b h
    cases b with
    | nilSlice => rfl
    | _ => exact absurd (show false = true from h) (by simp)
  · intro i o n c b h
    cases b with
    | slice i' o' n' c' => obtain ⟨h1, h2⟩ := andB_ok (show andB (andB (Nat.beq i i') (Nat.beq o o')) (andB (Nat.beq n n') (eqCp c c')) = true from h); obtain ⟨h3, h4⟩ := andB_ok h1; obtain ⟨h5, h6⟩ := andB_ok h2; rw [(beq_iff _ _).1 h3, (beq_iff _ _).1 h4, (beq_iff _ _).1 h5, eqCp_ok h6]
    | _ => exact absurd (show false = true from h) (by simp)
  · intro b h
    cases b with
    | nilMap => rfl
    | _ => exact absurd (show false = true from h) (by simp)
  · intro i b h
    cases b with
    | map i' => rw [(beq_iff i i').1 h]
    | _ => exact absurd (show false = true from h) (by simp)
  · intro f x y ia ib b h
    cases b with
    | func f' x' y' => obtain ⟨h1, h2⟩ := andB_ok (show andB (eqFn f f') (andB (eqVV (.agg x) (.agg x')) (eqVV (.agg y) (.agg y'))) = true from h); obtain ⟨h3, h4⟩ := andB_ok h2; rw [eqFn_ok h1, ia _ h3, ib _ h4]
    | _ => exact absurd (show false = true from h) (by simp)
  · intro b h
    cases b with
    | nilFunc => rfl
    | _ => exact absurd (show false = true from h) (by simp)
  · intro t v ih b h
    cases b with
    | iface t' v' => obtain ⟨h1, h2⟩ := andB_ok (show andB (Nat.beq t t') (eqVV v v') = true from h); rw [(beq_iff _ _).1 h1, ih _ h2]
    | _ => exact absurd (show false = true from h) (by simp)
  · intro b h
    cases b with
    | nilIface => rfl
    | _ => exact absurd (show false = true from h) (by simp)
  · intro l ih b h
    cases b with
    | agg l' => rw [ih _ h]
    | _ => exact absurd (show false = true from h) (by simp)
  · intro l ih b h
    cases b with
    | tuple l' => rw [ih _ h]
    | _ => exact absurd (show false = true from h) (by simp)
  · intro b h
    exact absurd (show false = true from h) (by simp)
  · intro i sz n b h
    cases b with
    | sarr i' sz' n' => obtain ⟨h1, h2⟩ := andB_ok (show andB (andB (Nat.beq i i') (Nat.beq sz sz')) (eqE n n') = true from h); obtain ⟨h3, h4⟩ := andB_ok h1; rw [(beq_iff _ _).1 h3, (beq_iff _ _).1 h4, eqE_ok h2]
    | _ => exact absurd (show false = true from h) (by simp)
  · intro i sz e f b h
    cases b with
    | sptr i' sz' e' f' => obtain ⟨h1, h2⟩ := andB_ok (show andB (andB (Nat.beq i i') (Nat.beq sz sz')) (andB (eqE e e') (Nat.beq f f')) = true from h); obtain ⟨h3, h4⟩ := andB_ok h1; obtain ⟨h5, h6⟩ := andB_ok h2; rw [(beq_iff _ _).1 h3, (beq_iff _ _).1 h4, eqE_ok h5, (beq_iff _ _).1 h6]
    | _ => exact absurd (show false = true from h) (by simp)
  · intro i z b h
    cases b with
    | eslice i' z' => obtain ⟨h1, h2⟩ := andB_ok (show andB (Nat.beq i i') (eqB z z') = true from h); rw [(beq_iff _ _).1 h1, eqB_ok h2]
    | _ => exact absurd (show false = true from h) (by simp)
  · intro b h
    cases b with
    | nil => rfl
    | cons y r => exact absurd (show false = true from h) (by simp)
  · intro x l ih il b h
    cases b with
    | nil => exact absurd (show false = true from h) (by simp)
    | cons y r => obtain ⟨h1, h2⟩ := andB_ok (show andB (eqVV x y) (eqVV (.agg l) (.agg r)) = true from h); rw [ih _ h1, il _ h2]

end Go.Sy

/-
  What is proved here: a region whose order is drawn, from its run in the order of the text: what each operation does at each memory at which it may run.
  Conditions: none.
-/
namespace Go.Sy

section out
variable {α β : Type} {ρ : Nat → Int}

theorem T.out_bndq {f : α → Mem → Pc → T β} {r : β} : ∀ {t : T (Rs α)} {p : Pc}, PcR ρ p → (t.bndq p f).out ρ = some r → ∃ a p1, t.out ρ = some a ∧ PcR ρ p1 ∧ (f a.v a.m p1).out ρ = some r
  | .ret a, p, hp, h => ⟨a, p, rfl, hp, h⟩
  | .br c x y, p, hp, h => by
    have h : (T.br c (x.bndq (p.add c true) f) (y.bndq (p.add c false) f)).out ρ = some r := h
    simp only [T.out] at h ⊢
    cases hc : c.den ρ with
    | true => rw [hc] at h; exact T.out_bndq (Pc.add_ok hp hc) (by simpa using h)
    | false => rw [hc] at h; exact T.out_bndq (Pc.add_ok hp hc) (by simpa using h)
  | .fail s, p, hp, h => by
    have h : (T.fail s : T β).out ρ = some r := h
    simp [T.out] at h

theorem T.out_bndpq {f : α → Pc → T β} {r : β} : ∀ {t : T (Rp α)} {p : Pc}, PcR ρ p → (t.bndpq p f).out ρ = some r → ∃ a p1, t.out ρ = some a ∧ PcR ρ p1 ∧ (f a.v p1).out ρ = some r
  | .ret a, p, hp, h => ⟨a, p, rfl, hp, h⟩
  | .br c x y, p, hp, h => by
    have h : (T.br c (x.bndpq (p.add c true) f) (y.bndpq (p.add c false) f)).out ρ = some r := h
    simp only [T.out] at h ⊢
    cases hc : c.den ρ with
    | true => rw [hc] at h; exact T.out_bndpq (Pc.add_ok hp hc) (by simpa using h)
    | false => rw [hc] at h; exact T.out_bndpq (Pc.add_ok hp hc) (by simpa using h)
  | .fail s, p, hp, h => by
    have h : (T.fail s : T β).out ρ = some r := h
    simp [T.out] at h

theorem T.out_selB {c : Bool} {x : T β} {s : String} {r : β} (h : (selB c x (.fail s)).out ρ = some r) : c = true ∧ x.out ρ = some r := by
  cases c with
  | true => exact ⟨rfl, h⟩
  | false =>
    have h : (T.fail s : T β).out ρ = some r := h
    simp [T.out] at h

theorem sameAt_ok {f : R V} {v : V} {p : Pc} {m : Mem} (h : sameAt f v p m = true) : ∃ q, f.gives ρ m p v q := by
  unfold sameAt at h
  unfold R.gives
  cases ht : f m p with
  | ret a =>
    rw [ht] at h
    obtain ⟨u, q⟩ := a
    have := eqVV_ok u v h
    subst this
    exact ⟨q, rfl⟩
  | br c x y => rw [ht] at h; exact absurd (show false = true from h) (by simp)
  | fail s => rw [ht] at h; exact absurd (show false = true from h) (by simp)

theorem allL_ok {f : α → Bool} : ∀ {l : List α}, allL f l = true → ∀ x ∈ l, f x = true
  | [], _, x, hx => by simp at hx
  | a :: l, h, x, hx => by
    have h : (Bool.rec false (allL f l) (f a) : Bool) = true := h
    cases ha : f a with
    | false => rw [ha] at h; simp at h
    | true =>
      rw [ha] at h
      cases hx with
      | head => exact ha
      | tail _ hx => exact allL_ok h x hx

theorem keepL_mem {f : α → Bool} {x : α} : ∀ {l : List α}, x ∈ l → f x = false → x ∈ keepL f l
  | a :: l, hx, hf => by
    show x ∈ (Bool.rec (a :: keepL f l) (keepL f l) (f a) : List α)
    cases ha : f a with
    | false =>
      cases hx with
      | head => exact .head _
      | tail _ hx => exact .tail _ (keepL_mem hx hf)
    | true =>
      cases hx with
      | head => rw [ha] at hf; simp at hf
      | tail _ hx => exact keepL_mem hx hf

theorem orB_ok {a b : Bool} (h : orB a b = true) : a = true ∨ b = true := by cases a <;> cases b <;> simp_all [orB]
end out

/-! ### maps up to the order of their entries -/

section mems
variable {c : Cx}

theorem KvR.perm {a b : List (V × V)} (h : a.Perm b) : ∀ {l : List MapEntry}, KvR c a l → ∃ l', l'.Perm l ∧ KvR c b l' := by
  induction h with
  | nil => exact fun {l} hl => ⟨l, .refl _, hl⟩
  | cons x _ ih =>
    intro l hl
    cases l with
    | nil => exact hl.elim
    | cons e l =>
      obtain ⟨h1, h2, h3⟩ := hl
      obtain ⟨l', h4, h5⟩ := ih h3
      exact ⟨e :: l', h4.cons e, h1, h2, h5⟩
  | swap x y a =>
    intro l hl
    cases l with
    | nil => exact hl.elim
    | cons e l =>
      obtain ⟨h1, h2, h3⟩ := hl
      cases l with
      | nil => exact h3.elim
      | cons e' l =>
        obtain ⟨h4, h5, h6⟩ := h3
        exact ⟨e' :: e :: l, .swap e e' l, h4, h5, h1, h2, h6⟩
  | trans _ _ ih1 ih2 =>
    intro l hl
    obtain ⟨l1, h1, h2⟩ := ih1 hl
    obtain ⟨l2, h3, h4⟩ := ih2 h2
    exact ⟨l2, h3.trans h1, h4⟩

theorem PmR.perm {a b : List (V × V)} {l : List MapEntry} (h : a.Perm b) (hr : PmR c a l) : PmR c b l := by
  obtain ⟨l', h1, h2⟩ := hr
  obtain ⟨l2, h3, h4⟩ := h2.perm h
  exact ⟨l2, h3.trans h1, h4⟩

def BlkE (x y : Option Blk) : Prop := x = y ∨ ∃ a b w, x = some (.pm a w) ∧ y = some (.pm b w) ∧ a.Perm b

theorem BlkE.symm {x y : Option Blk} (h : BlkE x y) : BlkE y x := by
  rcases h with h | ⟨a, b, w, h1, h2, h3⟩
  · exact .inl h.symm
  · exact .inr ⟨b, a, w, h2, h1, h3.symm⟩

/-- memories that are one, but for the order of maps' entries -/
structure MemE (m m' : Mem) : Prop where
  nb : m.nb = m'.nb
  nt : m.nt = m'.nt
  tok : m.tok = m'.tok
  tr : ∀ i, BlkE (m.tr.get i) (m'.tr.get i)

theorem MemE.symm {m m' : Mem} (h : MemE m m') : MemE m' m := ⟨h.nb.symm, h.nt.symm, h.tok.symm, fun i => (h.tr i).symm⟩

theorem BlkE.some {x : Option Blk} {b' : Blk} (h : BlkE x (some b')) : ∃ b, x = some b ∧ b.wrB = b'.wrB ∧ b.plB = b'.plB ∧ (∀ c : Cx, b'.live c → b.live c) ∧ ∀ (c : Cx) (w : World) (loc : Nat × Nat), BlkR c w loc b → BlkR c w loc b' := by
  rcases h with rfl | ⟨a, b, w, rfl, h2, h3⟩
  · exact ⟨b', rfl, rfl, rfl, fun _ h => h, fun _ _ _ h => h⟩
  · obtain rfl := Option.some.inj h2
    exact ⟨_, rfl, rfl, rfl, fun _ h => h, fun c w' loc hr => let ⟨es', k, k1, k2⟩ := hr; ⟨es', k, k1, k2.perm h3⟩⟩

theorem MemE.rel {m m' : Mem} (h : MemE m m') {w : World} (hm : MemR c m w) : MemR c m' w := by
  refine ⟨hm.nb.trans h.nb, hm.nt.trans h.nt, fun i b hb => ?_, fun i j b b' hb hb' hij hap l1 l2 => ?_, fun t n ht => hm.tok t n (by rw [h.tok]; exact ht)⟩
  · have e := h.tr i
    rw [hb] at e
    obtain ⟨k, h1, _, _, _, h2⟩ := e.some
    obtain ⟨h3, h4⟩ := hm.blk i k h1
    exact ⟨h3, h2 _ _ _ h4⟩
  · have e := h.tr i
    rw [hb] at e
    have e' := h.tr j
    rw [hb'] at e'
    obtain ⟨k, h1, h2, h3, h4, _⟩ := e.some
    obtain ⟨k', k1, k2, k3, k4, _⟩ := e'.some
    exact hm.inj i j k k' h1 k1 hij (by unfold Blk.apt at *; rw [h2, h3, k2, k3]; exact hap) (h4 c l1) (k4 c l2)

theorem MemE.wr {m m' : Mem} (h : MemE m m') {x : Nat} (hx : Wr c m' x) : Wr c m x := by
  obtain ⟨i, b, h1, h2, h3⟩ := hx
  have e := h.tr i
  rw [h1] at e
  obtain ⟨k, k1, k2, _⟩ := e.some
  exact ⟨i, k, k1, by rw [k2]; exact h2, h3⟩

theorem MemE.ad {m m' : Mem} (h : MemE m m') {x : Nat} (hx : Ad c m' x) : Ad c m x := by
  obtain ⟨i, b, h1, h2, h3⟩ := hx
  have e := h.tr i
  rw [h1] at e
  obtain ⟨k, k1, _, _, k2, _⟩ := e.some
  exact ⟨i, k, k1, k2 c h2, h3⟩

theorem Step.toE {c' : Cx} {u m m' : Mem} {w w' : World} (h : Step c u w c' m w') (e : MemE m m') : Step c u w c' m' w' :=
  ⟨e.rel h.rel, h.le, h.os, h.tape, h.output, h.size, h.frame, fun b hb => h.wr b (e.wr hb), fun b hb => h.ad b (e.ad hb)⟩

/-- the second is part of the first -/
structure MemSub (m d : Mem) : Prop where
  nb : m.nb = d.nb
  nt : m.nt = d.nt
  tok : m.tok = d.tok
  tr : ∀ i b, d.tr.get i = some b → m.tr.get i = some b

theorem MemSub.refl (m : Mem) : MemSub m m := ⟨rfl, rfl, rfl, fun _ _ h => h⟩

theorem MemSub.rel {m d : Mem} (h : MemSub m d) {w : World} (hm : MemR c m w) : MemR c d w :=
  ⟨hm.nb.trans h.nb, hm.nt.trans h.nt, fun i b hb => hm.blk i b (h.tr i b hb), fun i j b b' hb hb' => hm.inj i j b b' (h.tr i b hb) (h.tr j b' hb'), fun t n ht => hm.tok t n (by rw [h.tok]; exact ht)⟩

theorem Tr.setF_setF {α : Type} : ∀ (f : Nat) (v v' : Option α) (t : Tr α) (k : Nat), k < f → Tr.setF f v' (Tr.setF f v t k) k = Tr.setF f v' t k
  | 0, _, _, _, _, h => absurd h (by omega)
  | f + 1, v, v', t, k, h => by
    have hs : ∀ (v : Option α) (t : Tr α), Tr.setF (f + 1) v t k = Tr.rec (motive := fun _ => Tr α) .nil
      (fun u t0 t1 t2 t3 _ _ _ _ => Nat.rec (.node v t0 t1 t2 t3) (fun k _ => Bool.rec
        (Bool.rec (.node u t0 t1 t2 (Tr.setF f v t3 (Nat.div k 4))) (.node u t0 t1 (Tr.setF f v t2 (Nat.div k 4)) t3) (Nat.beq (Nat.mod k 4) 2))
        (Bool.rec (.node u t0 (Tr.setF f v t1 (Nat.div k 4)) t2 t3) (.node u (Tr.setF f v t0 (Nat.div k 4)) t1 t2 t3) (Nat.beq (Nat.mod k 4) 0)) (Nat.blt (Nat.mod k 4) 2)) k)
      t.open := fun _ _ => rfl
    have ho : ∃ u t0 t1 t2 t3, t.open = .node u t0 t1 t2 t3 := by cases t <;> exact ⟨_, _, _, _, _, rfl⟩
    obtain ⟨u, t0, t1, t2, t3, ho⟩ := ho
    have hopen : ∀ (u : Option α) (a b c d : Tr α), (Tr.node u a b c d).open = .node u a b c d := fun _ _ _ _ _ => rfl
    rw [hs v' (Tr.setF (f + 1) v t k), hs v t, hs v' t, ho]
    clear hs ho
    cases k with
    | zero => rfl
    | succ k =>
      have hk : k / 4 < f := by omega
      show (Tr.rec (motive := fun _ => Tr α) .nil
        (fun u t0 t1 t2 t3 _ _ _ _ => Bool.rec
          (Bool.rec (.node u t0 t1 t2 (Tr.setF f v' t3 (k / 4))) (.node u t0 t1 (Tr.setF f v' t2 (k / 4)) t3) (Nat.beq (k % 4) 2))
          (Bool.rec (.node u t0 (Tr.setF f v' t1 (k / 4)) t2 t3) (.node u (Tr.setF f v' t0 (k / 4)) t1 t2 t3) (Nat.beq (k % 4) 0)) (Nat.blt (k % 4) 2))
        (Bool.rec
          (Bool.rec (.node u t0 t1 t2 (Tr.setF f v t3 (k / 4))) (.node u t0 t1 (Tr.setF f v t2 (k / 4)) t3) (Nat.beq (k % 4) 2))
          (Bool.rec (.node u t0 (Tr.setF f v t1 (k / 4)) t2 t3) (.node u (Tr.setF f v t0 (k / 4)) t1 t2 t3) (Nat.beq (k % 4) 0)) (Nat.blt (k % 4) 2) : Tr α).open : Tr α) = Bool.rec
          (Bool.rec (.node u t0 t1 t2 (Tr.setF f v' t3 (k / 4))) (.node u t0 t1 (Tr.setF f v' t2 (k / 4)) t3) (Nat.beq (k % 4) 2))
          (Bool.rec (.node u t0 (Tr.setF f v' t1 (k / 4)) t2 t3) (.node u (Tr.setF f v' t0 (k / 4)) t1 t2 t3) (Nat.beq (k % 4) 0)) (Nat.blt (k % 4) 2)
      rcases lt4 k with h | h | h | h <;> rw [h]
      · show Tr.node u (Tr.setF f v' (Tr.setF f v t0 (k / 4)) (k / 4)) t1 t2 t3 = Tr.node u (Tr.setF f v' t0 (k / 4)) t1 t2 t3
        rw [Tr.setF_setF f v v' t0 (k / 4) hk]
      · show Tr.node u t0 (Tr.setF f v' (Tr.setF f v t1 (k / 4)) (k / 4)) t2 t3 = Tr.node u t0 (Tr.setF f v' t1 (k / 4)) t2 t3
        rw [Tr.setF_setF f v v' t1 (k / 4) hk]
      · show Tr.node u t0 t1 (Tr.setF f v' (Tr.setF f v t2 (k / 4)) (k / 4)) t3 = Tr.node u t0 t1 (Tr.setF f v' t2 (k / 4)) t3
        rw [Tr.setF_setF f v v' t2 (k / 4) hk]
      · show Tr.node u t0 t1 t2 (Tr.setF f v' (Tr.setF f v t3 (k / 4)) (k / 4)) = Tr.node u t0 t1 t2 (Tr.setF f v' t3 (k / 4))
        rw [Tr.setF_setF f v v' t3 (k / 4) hk]

theorem setB_setB (m : Mem) (b : Nat) (x y : Blk) : setB (setB m b x) b y = setB m b y := by
  show (⟨Tr.setF (b + 1) (some y) (Tr.setF (b + 1) (some x) m.tr b) b, m.nb, m.tok, m.nt⟩ : Mem) = ⟨Tr.setF (b + 1) (some y) m.tr b, m.nb, m.tok, m.nt⟩
  rw [Tr.setF_setF _ _ _ _ _ (Nat.lt_succ_self b)]

theorem setB_get (m : Mem) (b j : Nat) (x : Blk) : (setB m b x).tr.get j = if j = b then some x else m.tr.get j := Tr.get_set m.tr b j x
theorem delB_get (m : Mem) (b j : Nat) : (delB m b).tr.get j = if j = b then none else m.tr.get j := Tr.get_del m.tr b j

theorem setB_E {m : Mem} {b : Nat} {x y : List (V × V)} (h : x.Perm y) : MemE (setB m b (.pm x true)) (setB m b (.pm y true)) := by
  refine ⟨rfl, rfl, rfl, fun i => ?_⟩
  rw [setB_get, setB_get]
  split
  · exact .inr ⟨x, y, true, rfl, rfl, h⟩
  · exact .inl rfl

theorem setB_sub (m : Mem) (b : Nat) (x : Blk) : MemSub (setB m b x) (delB m b) := by
  refine ⟨rfl, rfl, rfl, fun i k h => ?_⟩
  rw [delB_get] at h
  rw [setB_get]
  split at h
  · exact nomatch h
  · rename_i e; rw [if_neg e]; exact h

theorem delB_sub (m : Mem) (b : Nat) : MemSub m (delB m b) := by
  refine ⟨rfl, rfl, rfl, fun i k h => ?_⟩
  rw [delB_get] at h
  split at h
  · exact nomatch h
  · exact h
end mems

def updN {α : Type} (f : Nat → α) (i : Nat) (v : α) : Nat → α := fun j => if j = i then v else f j
theorem updN_same {α : Type} {f : Nat → α} {i : Nat} {v : α} : updN f i v i = v := if_pos rfl
theorem updN_ne {α : Type} {f : Nat → α} {i j : Nat} {v : α} (h : j ≠ i) : updN f i v j = f j := if_neg h
theorem updN_lt {α : Type} {f : Nat → α} {i j : Nat} {v : α} (h : j < i) : updN f i v j = f j := if_neg (by omega)

/-! ### the entries of some of a group's members -/

def insL (G : List (Nat × (V × V))) (S : Nat → Bool) : List (V × V) := (G.filter fun x => S x.1).map (·.2)

noncomputable def grpM (mb : Mem) (b : Nat) (es0 : List (V × V)) (G : List (Nat × (V × V))) (S : Nat → Bool) : Mem :=
  match insL G S with
  | [] => mb
  | x :: l => setB mb b (.pm (es0 ++ x :: l) true)

theorem insL_congr {S S' : Nat → Bool} : ∀ {G : List (Nat × (V × V))}, (∀ x ∈ G, S x.1 = S' x.1) → insL G S = insL G S'
  | [], _ => rfl
  | x :: G, h => by
    have ih := insL_congr (G := G) fun y hy => h y (.tail _ hy)
    unfold insL at ih ⊢
    rw [List.filter_cons, List.filter_cons, h x (.head _)]
    split <;> simp [ih]

theorem insL_none {S : Nat → Bool} {G : List (Nat × (V × V))} (h : ∀ x ∈ G, S x.1 = false) : insL G S = [] := by
  unfold insL
  rw [List.filter_eq_nil_iff.2 (fun x hx => by simp [h x hx])]
  rfl

theorem insL_all {S : Nat → Bool} {G : List (Nat × (V × V))} (h : ∀ x ∈ G, S x.1 = true) : insL G S = G.map (·.2) := by
  unfold insL
  rw [List.filter_eq_self.2 (fun x hx => by simp [h x hx])]

theorem mem_insL {S : Nat → Bool} {G : List (Nat × (V × V))} {e : V × V} : e ∈ insL G S ↔ ∃ x ∈ G, S x.1 = true ∧ x.2 = e := by
  unfold insL
  rw [List.mem_map]
  constructor
  · rintro ⟨x, hx, rfl⟩
    obtain ⟨h1, h2⟩ := List.mem_filter.1 hx
    exact ⟨x, h1, h2, rfl⟩
  · rintro ⟨x, h1, h2, rfl⟩
    exact ⟨x, List.mem_filter.2 ⟨h1, h2⟩, rfl⟩

theorem insL_new {S : Nat → Bool} {j : Nat} {kv : V × V} (hS : S j = false) : ∀ {G : List (Nat × (V × V))}, (G.map (·.1)).Nodup → (j, kv) ∈ G → (insL G (updN S j true)).Perm (kv :: insL G S)
  | [], _, h => nomatch h
  | x :: G, hn, h => by
    rw [List.map_cons, List.nodup_cons] at hn
    cases h with
    | head =>
      have hne : ∀ y ∈ G, y.1 ≠ j := fun y hy e => hn.1 (List.mem_map.2 ⟨y, hy, e⟩)
      have e : insL G (updN S j true) = insL G S := insL_congr fun y hy => updN_ne (hne y hy)
      unfold insL at e ⊢
      rw [List.filter_cons, List.filter_cons]
      simp only [updN_same, hS]
      simp [e]
    | tail _ h =>
      have ih := insL_new hS hn.2 h
      have hx : x.1 ≠ j := fun e => hn.1 (List.mem_map.2 ⟨(j, kv), h, e.symm⟩)
      unfold insL at ih ⊢
      rw [List.filter_cons, List.filter_cons, updN_ne hx]
      cases hs : S x.1 with
      | true => simpa using (ih.cons x.2).trans (List.Perm.swap kv x.2 _)
      | false => simpa using ih

theorem grpM_pos {mb : Mem} {b : Nat} {es0 : List (V × V)} {G : List (Nat × (V × V))} {S : Nat → Bool} (h : insL G S ≠ []) : grpM mb b es0 G S = setB mb b (.pm (es0 ++ insL G S) true) := by
  unfold grpM
  cases hl : insL G S with
  | nil => exact absurd hl h
  | cons x l => rfl

theorem grpM_none {mb : Mem} {b : Nat} {es0 : List (V × V)} {G : List (Nat × (V × V))} {S : Nat → Bool} (h : insL G S = []) : grpM mb b es0 G S = mb := by
  unfold grpM; rw [h]

theorem grpM_nb (mb : Mem) (b : Nat) (es0 : List (V × V)) (G : List (Nat × (V × V))) (S : Nat → Bool) : (grpM mb b es0 G S).nb = mb.nb ∧ (grpM mb b es0 G S).nt = mb.nt := by
  by_cases h : insL G S = []
  · rw [grpM_none h]; exact ⟨rfl, rfl⟩
  · rw [grpM_pos h]; exact ⟨rfl, rfl⟩

theorem grpM_at {mb : Mem} {b : Nat} {es0 : List (V × V)} (h0 : PmAt mb b es0) (G : List (Nat × (V × V))) (S : Nat → Bool) : PmAt (grpM mb b es0 G S) b (es0 ++ insL G S) := by
  by_cases h : insL G S = []
  · rw [grpM_none h, h, List.append_nil]; exact h0
  · rw [grpM_pos h]
    exact .inl (by rw [setB_get, if_pos rfl])

theorem grpM_set (mb : Mem) (b : Nat) (es0 : List (V × V)) (G : List (Nat × (V × V))) (S : Nat → Bool) (x : Blk) : setB (grpM mb b es0 G S) b x = setB mb b x := by
  by_cases h : insL G S = []
  · rw [grpM_none h]
  · rw [grpM_pos h, setB_setB]

theorem grpM_sub (mb : Mem) (b : Nat) (es0 : List (V × V)) (G : List (Nat × (V × V))) (S : Nat → Bool) : MemSub (grpM mb b es0 G S) (delB mb b) := by
  by_cases h : insL G S = []
  · rw [grpM_none h]; exact delB_sub mb b
  · rw [grpM_pos h]; exact setB_sub mb b _

section cert
variable {P : Program} {ρ : Nat → Int} {ops : Array Oper} {n : Nat} {env0 : Env} {m0 : Mem}

theorem Does.toE {o : Oper} {env : Env} {u m m' : Mem} {v : V} (h : Does P ρ ops n o env u v m) (e : MemE m m') : Does P ρ ops n o env u v m' :=
  fun _ _ _ hc hm he K Q hK => h hc hm he K Q fun c' w' z s hz => hK c' w' z (s.toE e) hz

def dstAt (ops : Array Oper) (j : Nat) : Option Nat := (ops[j]?).bind (·.dst)

/-- the slots behind the first j operations, in the order of the text -/
noncomputable def envT (ops : Array Oper) (val : Nat → V) (env0 : Env) : Nat → Env
  | 0 => env0
  | j + 1 => putE (dstAt ops j) (envT ops val env0 j) (val j)

theorem envT_congr {val val' : Nat → V} : ∀ {j : Nat}, (∀ x, x < j → val' x = val x) → envT ops val' env0 j = envT ops val env0 j
  | 0, _ => rfl
  | j + 1, h => by rw [envT, envT, envT_congr (fun x hx => h x (by omega)), h j (by omega)]

theorem envT_upd {val : Nat → V} {i j : Nat} {v : V} (h : j ≤ i) : envT ops (updN val i v) env0 j = envT ops val env0 j :=
  envT_congr fun x hx => updN_lt (by omega)

/-- the first i operations: what they give ('val'), the levels of those that write ('eff'; k levels), the memories at each level, by which of its operations are done ('mem'), and behind all ('cur') -/
structure Cert (P : Program) (ρ : Nat → Int) (ops : Array Oper) (n : Nat) (env0 : Env) (m0 : Mem) (i k : Nat) (val : Nat → V) (eff : Nat → Option Nat) (mem : Nat → (Nat → Bool) → Mem) (cur : Mem) : Prop where
  does : ∀ (j : Nat) (o : Oper) (a : Nat) (S : Nat → Bool), j < i → ops[j]? = some o → eff j = some a → S j = false → Does P ρ ops n o (envT ops val env0 j) (mem a S) (val j) (mem a (updN S j true))
  lt : ∀ j a, j < i → eff j = some a → a < k
  reads : ∀ (j : Nat) (o : Oper) (a : Nat) (S : Nat → Bool), j < i → ops[j]? = some o → eff j = none → (a = k ∨ a < k ∧ ∃ e, e < i ∧ eff e = some a ∧ S e = false) →
    (∀ e b, e < i → eff e = some b → Anc ops j e → b < a ∨ b = a ∧ S e = true) → (∀ e b, e < i → eff e = some b → Anc ops e j → a < b ∨ b = a ∧ S e = false) → Does P ρ ops n o (envT ops val env0 j) (mem a S) (val j) (mem a S)
  onto : ∀ a, a < k → ∃ j, j < i ∧ eff j = some a
  chain : ∀ j j' a a', j < i → j' < i → eff j = some a → eff j' = some a' → a < a' → Anc ops j' j
  full : ∀ (a : Nat) (S S' : Nat → Bool), a < k → (∀ j, j < i → eff j = some a → S j = true) → (∀ j, j < i → eff j = some (a + 1) → S' j = false) → mem a S = mem (a + 1) S'
  ext : ∀ (a : Nat) (S S' : Nat → Bool), (∀ j, j < i → eff j = some a → S j = S' j) → mem a S = mem a S'
  top : ∀ (a : Nat) (S : Nat → Bool), k ≤ a → mem a S = cur
  start : mem 0 (fun _ => false) = m0
  slot : ∀ j d, j < i → dstAt ops j = some d → d < n

theorem slot_step {d : Option Nat} (h : slotOk d n = true) : ∀ t, d = some t → t < n := by
  rintro t rfl
  exact (blt_iff _ _).1 h

section step
variable {i k : Nat} {val : Nat → V} {eff : Nat → Option Nat} {mem : Nat → (Nat → Bool) → Mem} {cur : Mem} {o : Oper} {v : V}

theorem lt_split {j i : Nat} (h : j < i + 1) : j < i ∨ j = i := by omega

theorem Cert.slot_new (C : Cert P ρ ops n env0 m0 i k val eff mem cur) (ho : ops[i]? = some o) (hs : slotOk o.dst n = true) : ∀ j d, j < i + 1 → dstAt ops j = some d → d < n := by
  intro j d hj hdj
  rcases lt_split hj with h | rfl
  · exact C.slot j d h hdj
  · unfold dstAt at hdj; rw [ho] at hdj; exact slot_step hs d hdj

/-- the memories, with a new level: one operation -/
noncomputable def memLv (mem : Nat → (Nat → Bool) → Mem) (cur m1 : Mem) (i k : Nat) : Nat → (Nat → Bool) → Mem := fun a S => if a < k then mem a S else if a = k then (if S i = true then m1 else cur) else m1

theorem memLv_lt {m1 : Mem} {a : Nat} {S : Nat → Bool} (h : a < k) : memLv mem cur m1 i k a S = mem a S := if_pos h
theorem memLv_no {m1 : Mem} {S : Nat → Bool} (h : S i = false) : memLv mem cur m1 i k k S = cur := by unfold memLv; rw [if_neg (Nat.lt_irrefl _), if_pos rfl, h]; rfl
theorem memLv_yes {m1 : Mem} {S : Nat → Bool} (h : S i = true) : memLv mem cur m1 i k k S = m1 := by unfold memLv; rw [if_neg (Nat.lt_irrefl _), if_pos rfl, h]; rfl
theorem memLv_gt {m1 : Mem} {a : Nat} {S : Nat → Bool} (h : k < a) : memLv mem cur m1 i k a S = m1 := by unfold memLv; rw [if_neg (by omega), if_neg (by omega)]

/-- one more operation that writes: a level of its own -/
theorem Cert.addLevel (C : Cert P ρ ops n env0 m0 i k val eff mem cur) (ho : ops[i]? = some o) {m1 : Mem} (hd : Does P ρ ops n o (envT ops val env0 i) cur v m1) (hs : slotOk o.dst n = true)
    (hall : ∀ j a, j < i → eff j = some a → Anc ops i j)
    (hr : ∀ (j : Nat) (o' : Oper), j < i → ops[j]? = some o' → eff j = none → (∃ e b, e < i ∧ eff e = some b ∧ Anc ops e j) ∨ Anc ops i j ∨ Does P ρ ops n o' (envT ops val env0 j) m1 (val j) m1) :
    Cert P ρ ops n env0 m0 (i + 1) (k + 1) (updN val i v) (updN eff i (some k)) (memLv mem cur m1 i k) m1 := by
  have old : ∀ {j a}, j < i → (updN eff i (some k) j = some a ↔ eff j = some a) := fun hj => by rw [updN_lt hj]
  refine ⟨?_, ?_, ?_, ?_, ?_, ?_, ?_, ?_, ?_, C.slot_new ho hs⟩
  · intro j o' a S hj ho' ha hS
    rcases lt_split hj with h | rfl
    · rw [old h] at ha
      have hak := C.lt j a h ha
      rw [envT_upd (by omega), updN_lt h, memLv_lt hak, memLv_lt hak]
      exact C.does j o' a S h ho' ha hS
    · rw [updN_same] at ha
      obtain rfl := Option.some.inj ha
      rw [ho] at ho'; obtain rfl := Option.some.inj ho'
      rw [envT_upd (Nat.le_refl _), updN_same, memLv_no hS, memLv_yes updN_same]
      exact hd
  · intro j a hj ha
    rcases lt_split hj with h | rfl
    · have := C.lt j a h ((old h).1 ha); omega
    · rw [updN_same] at ha; obtain rfl := Option.some.inj ha; omega
  · intro j o' a S hj ho' ha hpos h1 h2
    rcases lt_split hj with h | rfl
    rotate_left
    · rw [updN_same] at ha; exact nomatch ha
    rw [updN_lt h] at ha
    rw [envT_upd (by omega), updN_lt h]
    have h1' : ∀ e b, e < i → eff e = some b → Anc ops j e → b < a ∨ b = a ∧ S e = true := fun e b he hb => h1 e b (by omega) ((old he).2 hb)
    have h2' : ∀ e b, e < i → eff e = some b → Anc ops e j → a < b ∨ b = a ∧ S e = false := fun e b he hb => h2 e b (by omega) ((old he).2 hb)
    rcases Nat.lt_trichotomy a k with hak | rfl | hak
    · rw [memLv_lt hak]
      refine C.reads j o' a S h ho' ha (.inr ⟨hak, ?_⟩) h1' h2'
      rcases hpos with rfl | ⟨_, e, he, hea, heS⟩
      · omega
      · rcases lt_split he with h3 | rfl
        · exact ⟨e, h3, (old h3).1 hea, heS⟩
        · rw [updN_same] at hea; have := Option.some.inj hea; omega
    · have hSi : S i = false := by
        rcases hpos with h3 | ⟨_, e, he, hea, heS⟩
        · omega
        · rcases lt_split he with h3 | rfl
          · have := C.lt e a h3 ((old h3).1 hea); omega
          · exact heS
      rw [memLv_no hSi, ← C.top a S (Nat.le_refl _)]
      exact C.reads j o' a S h ho' ha (.inl rfl) h1' h2'
    · rw [memLv_gt hak]
      rcases hr j o' h ho' ha with ⟨e, b, he, hb, hanc⟩ | hanc | hD
      · have := C.lt e b he hb
        rcases h2' e b he hb hanc with h3 | ⟨h3, _⟩ <;> omega
      · rcases h2 i k (by omega) updN_same hanc with h3 | ⟨h3, _⟩ <;> omega
      · exact hD
  · intro a ha
    by_cases hk : a < k
    · obtain ⟨j, hj, h⟩ := C.onto a hk
      exact ⟨j, by omega, (old hj).2 h⟩
    · obtain rfl : a = k := by omega
      exact ⟨i, by omega, updN_same⟩
  · intro j j' a a' hj hj' h h' hlt
    rcases lt_split hj with hji | rfl <;> rcases lt_split hj' with hji' | rfl
    · exact C.chain j j' a a' hji hji' ((old hji).1 h) ((old hji').1 h') hlt
    · exact hall j a hji ((old hji).1 h)
    · rw [updN_same] at h; obtain rfl := Option.some.inj h
      have := C.lt j' a' hji' ((old hji').1 h'); omega
    · rw [updN_same] at h h'; have := Option.some.inj h; have := Option.some.inj h'; omega
  · intro a S S' hak h h'
    by_cases hk : a < k
    · rw [memLv_lt hk]
      have h0 : ∀ j, j < i → eff j = some a → S j = true := fun j hj hja => h j (by omega) ((old hj).2 hja)
      by_cases hk2 : a + 1 < k
      · rw [memLv_lt hk2]
        exact C.full a S S' hk h0 fun j hj hja => h' j (by omega) ((old hj).2 hja)
      · have hk3 : a + 1 = k := by omega
        rw [hk3] at h' ⊢
        rw [memLv_no (h' i (by omega) updN_same), C.full a S S' hk h0 (fun j hj hja => by have := C.lt j _ hj hja; omega), C.top _ _ (by omega)]
    · obtain rfl : a = k := by omega
      rw [memLv_yes (h i (by omega) updN_same), memLv_gt (by omega)]
  · intro a S S' h
    rcases Nat.lt_trichotomy a k with hak | rfl | hak
    · rw [memLv_lt hak, memLv_lt hak]
      exact C.ext a S S' fun j hj hja => h j (by omega) ((old hj).2 hja)
    · unfold memLv
      rw [h i (by omega) updN_same]
      simp only [Nat.lt_irrefl, if_false]
    · rw [memLv_gt hak, memLv_gt hak]
  · intro a S h
    exact memLv_gt (by omega)
  · by_cases hk : 0 < k
    · rw [memLv_lt hk]; exact C.start
    · obtain rfl : k = 0 := by omega
      rw [memLv_no rfl, ← C.top 0 (fun _ => false) (Nat.le_refl _)]; exact C.start

/-- one more operation that does not write -/
theorem Cert.addRead (C : Cert P ρ ops n env0 m0 i k val eff mem cur) (ho : ops[i]? = some o) (hs : slotOk o.dst n = true)
    (hr : ∀ (a : Nat) (S : Nat → Bool), (a = k ∨ a < k ∧ ∃ e, e < i ∧ eff e = some a ∧ S e = false) → (∀ e b, e < i → eff e = some b → Anc ops i e → b < a ∨ b = a ∧ S e = true) → Does P ρ ops n o (envT ops val env0 i) (mem a S) v (mem a S)) :
    Cert P ρ ops n env0 m0 (i + 1) k (updN val i v) (updN eff i none) mem cur := by
  have old : ∀ {j a}, j < i + 1 → updN eff i none j = some a → j < i ∧ eff j = some a := by
    intro j a hj h
    rcases lt_split hj with h1 | rfl
    · rw [updN_lt h1] at h; exact ⟨h1, h⟩
    · rw [updN_same] at h; exact nomatch h
  have back : ∀ {j a}, j < i → eff j = some a → updN eff i none j = some a := fun hj h => by rw [updN_lt hj]; exact h
  refine ⟨?_, ?_, ?_, ?_, ?_, ?_, ?_, C.top, C.start, C.slot_new ho hs⟩
  · intro j o' a S hj ho' ha hS
    obtain ⟨h1, h2⟩ := old hj ha
    rw [envT_upd (by omega), updN_lt h1]
    exact C.does j o' a S h1 ho' h2 hS
  · intro j a hj ha
    obtain ⟨h1, h2⟩ := old hj ha
    exact C.lt j a h1 h2
  · intro j o' a S hj ho' ha hpos h1 h2
    have hpos' : a = k ∨ a < k ∧ ∃ e, e < i ∧ eff e = some a ∧ S e = false := by
      rcases hpos with h3 | ⟨h3, e, he, hea, heS⟩
      · exact .inl h3
      · obtain ⟨h4, h5⟩ := old he hea
        exact .inr ⟨h3, e, h4, h5, heS⟩
    rcases lt_split hj with h | rfl
    · rw [updN_lt h] at ha
      rw [envT_upd (by omega), updN_lt h]
      exact C.reads j o' a S h ho' ha hpos' (fun e b he hb => h1 e b (by omega) (back he hb)) (fun e b he hb => h2 e b (by omega) (back he hb))
    · rw [ho] at ho'; obtain rfl := Option.some.inj ho'
      rw [envT_upd (Nat.le_refl _), updN_same]
      exact hr a S hpos' fun e b he hb => h1 e b (by omega) (back he hb)
  · intro a ha
    obtain ⟨j, hj, h⟩ := C.onto a ha
    exact ⟨j, by omega, back hj h⟩
  · intro j j' a a' hj hj' h h' hlt
    obtain ⟨h1, h2⟩ := old hj h
    obtain ⟨h3, h4⟩ := old hj' h'
    exact C.chain j j' a a' h1 h3 h2 h4 hlt
  · intro a S S' hak h h'
    exact C.full a S S' hak (fun j hj hja => h j (by omega) (back hj hja)) (fun j hj hja => h' j (by omega) (back hj hja))
  · intro a S S' h
    exact C.ext a S S' fun j hj hja => h j (by omega) (back hj hja)

/-- the last level: entries of one map, in any order -/
structure GrpI (P : Program) (ρ : Nat → Int) (ops : Array Oper) (n : Nat) (env0 : Env) (i l : Nat) (val : Nat → V) (eff : Nat → Option Nat) (mem : Nat → (Nat → Bool) → Mem) (cur : Mem) (b : Nat) (kt : TypeId) (mb : Mem) (es0 : List (V × V)) (G : List (Nat × (V × V))) : Prop where
  pm : PmAt mb b es0
  now : cur = setB mb b (.pm (es0 ++ G.map (·.2)) true)
  mems : ∀ S, mem l S = grpM mb b es0 G S
  mbs : ∀ j, (∃ kv, (j, kv) ∈ G) ↔ j < i ∧ eff j = some l
  nodup : (G.map (·.1)).Nodup
  ne : G ≠ []
  apart : ∀ x ∈ G, ∀ y ∈ G, x.1 ≠ y.1 → Apart P kt mb.nb mb.nt ρ x.2.1 y.2.1
  apart0 : ∀ x ∈ G, ∀ e ∈ es0, Apart P kt mb.nb mb.nt ρ x.2.1 e.1
  ins : ∀ x ∈ G, ∀ o, ops[x.1]? = some o → ∀ (u : Mem) (es : List (V × V)), u.nb = mb.nb → u.nt = mb.nt → PmAt u b es → (∀ e ∈ es, Apart P kt mb.nb mb.nt ρ x.2.1 e.1) →
    Does P ρ ops n o (envT ops val env0 x.1) u (val x.1) (setB u b (.pm (es ++ [x.2]) true))

theorem GrpI.does {l b : Nat} {kt : TypeId} {mb : Mem} {es0 : List (V × V)} {G : List (Nat × (V × V))} (g : GrpI P ρ ops n env0 i l val eff mem cur b kt mb es0 G) {x : Nat × (V × V)} (hx : x ∈ G) (ho : ops[x.1]? = some o) {S : Nat → Bool} (hS : S x.1 = false) :
    Does P ρ ops n o (envT ops val env0 x.1) (grpM mb b es0 G S) (val x.1) (grpM mb b es0 G (updN S x.1 true)) := by
  obtain ⟨n1, n2⟩ := grpM_nb mb b es0 G S
  refine (g.ins x hx o ho (grpM mb b es0 G S) (es0 ++ insL G S) n1 n2 (grpM_at g.pm G S) fun e he => ?_).toE ?_
  · rcases List.mem_append.1 he with he | he
    · exact g.apart0 x hx e he
    · obtain ⟨y, hy, hyS, rfl⟩ := mem_insL.1 he
      exact g.apart x hx y hy fun e => by rw [← e, hS] at hyS; exact nomatch hyS
  · have hp := insL_new (kv := x.2) hS g.nodup hx
    have hne : insL G (updN S x.1 true) ≠ [] := fun e => by rw [e] at hp; exact nomatch hp.length_eq
    rw [grpM_set, grpM_pos hne]
    refine setB_E ?_
    rw [List.append_assoc]
    exact ((List.perm_append_comm (l₁ := insL G S) (l₂ := [x.2])).trans hp.symm).append_left es0

/-- the memories, with one more entry in the last level -/
noncomputable def memJn (mem : Nat → (Nat → Bool) → Mem) (M : (Nat → Bool) → Mem) (m1 : Mem) (l : Nat) : Nat → (Nat → Bool) → Mem := fun a S => if a < l then mem a S else if a = l then M S else m1
theorem memJn_lt {M : (Nat → Bool) → Mem} {m1 : Mem} {l a : Nat} {S : Nat → Bool} (h : a < l) : memJn mem M m1 l a S = mem a S := if_pos h
theorem memJn_eq {M : (Nat → Bool) → Mem} {m1 : Mem} {l : Nat} {S : Nat → Bool} : memJn mem M m1 l l S = M S := by unfold memJn; rw [if_neg (Nat.lt_irrefl _), if_pos rfl]
theorem memJn_gt {M : (Nat → Bool) → Mem} {m1 : Mem} {l a : Nat} {S : Nat → Bool} (h : l < a) : memJn mem M m1 l a S = m1 := by unfold memJn; rw [if_neg (by omega), if_neg (by omega)]

/-- one more entry in the last level -/
theorem Cert.addJoin {l : Nat} (C : Cert P ρ ops n env0 m0 i (l + 1) val eff mem cur) {b : Nat} {kt : TypeId} {mb : Mem} {es0 : List (V × V)} {G : List (Nat × (V × V))} (g : GrpI P ρ ops n env0 i l val eff mem cur b kt mb es0 G)
    (ho : ops[i]? = some o) (hs : slotOk o.dst n = true) {kv : V × V}
    (hins : ∀ (u : Mem) (es : List (V × V)), u.nb = mb.nb → u.nt = mb.nt → PmAt u b es → (∀ e ∈ es, Apart P kt mb.nb mb.nt ρ kv.1 e.1) → Does P ρ ops n o (envT ops val env0 i) u v (setB u b (.pm (es ++ [kv]) true)))
    (hap : ∀ e ∈ es0 ++ G.map (·.2), Apart P kt mb.nb mb.nt ρ kv.1 e.1 ∧ Apart P kt mb.nb mb.nt ρ e.1 kv.1)
    (hall : ∀ j a, j < i → eff j = some a → a < l → Anc ops i j)
    (hr : ∀ (j : Nat) (o' : Oper), j < i → ops[j]? = some o' → eff j = none → (∃ e b, e < i ∧ eff e = some b ∧ b < l ∧ Anc ops e j) ∨ ∀ u, MemSub u (delB mb b) → Does P ρ ops n o' (envT ops val env0 j) u (val j) u) :
    Cert P ρ ops n env0 m0 (i + 1) (l + 1) (updN val i v) (updN eff i (some l)) (memJn mem (grpM mb b es0 (G ++ [(i, kv)])) (setB mb b (.pm (es0 ++ (G ++ [(i, kv)]).map (·.2)) true)) l) (setB mb b (.pm (es0 ++ (G ++ [(i, kv)]).map (·.2)) true)) ∧
    GrpI P ρ ops n env0 (i + 1) l (updN val i v) (updN eff i (some l)) (memJn mem (grpM mb b es0 (G ++ [(i, kv)])) (setB mb b (.pm (es0 ++ (G ++ [(i, kv)]).map (·.2)) true)) l) (setB mb b (.pm (es0 ++ (G ++ [(i, kv)]).map (·.2)) true)) b kt mb es0 (G ++ [(i, kv)]) := by
  have old : ∀ {j a}, j < i → (updN eff i (some l) j = some a ↔ eff j = some a) := fun hj => by rw [updN_lt hj]
  have hGi : ∀ x ∈ G, x.1 < i := fun x hx => ((g.mbs x.1).1 ⟨x.2, hx⟩).1
  have hmem : ∀ {x}, x ∈ G ++ [(i, kv)] → x ∈ G ∨ x = (i, kv) := fun hx => by simpa using hx
  have g' : GrpI P ρ ops n env0 (i + 1) l (updN val i v) (updN eff i (some l)) (memJn mem (grpM mb b es0 (G ++ [(i, kv)])) (setB mb b (.pm (es0 ++ (G ++ [(i, kv)]).map (·.2)) true)) l) (setB mb b (.pm (es0 ++ (G ++ [(i, kv)]).map (·.2)) true)) b kt mb es0 (G ++ [(i, kv)]) := by
    refine ⟨g.pm, rfl, fun S => memJn_eq, fun j => ?_, ?_, by simp, ?_, ?_, ?_⟩
    · constructor
      · rintro ⟨x, hx⟩
        rcases hmem hx with hx | hx
        · obtain ⟨h1, h2⟩ := (g.mbs j).1 ⟨x, hx⟩
          exact ⟨by omega, (old h1).2 h2⟩
        · obtain rfl : j = i := congrArg Prod.fst hx
          exact ⟨by omega, updN_same⟩
      · rintro ⟨h1, h2⟩
        rcases lt_split h1 with h | rfl
        · obtain ⟨x, hx⟩ := (g.mbs j).2 ⟨h, (old h).1 h2⟩
          exact ⟨x, List.mem_append_left _ hx⟩
        · exact ⟨kv, by simp⟩
    · rw [List.map_append, List.nodup_append]
      refine ⟨g.nodup, by simp, fun x hx y hy => ?_⟩
      obtain ⟨z, hz, rfl⟩ := List.mem_map.1 hx
      have := hGi z hz
      simp at hy
      omega
    · intro x hx y hy hxy
      rcases hmem hx with hx | rfl <;> rcases hmem hy with hy | rfl
      · exact g.apart x hx y hy hxy
      · exact (hap x.2 (List.mem_append_right _ (List.mem_map.2 ⟨x, hx, rfl⟩))).2
      · exact (hap y.2 (List.mem_append_right _ (List.mem_map.2 ⟨y, hy, rfl⟩))).1
      · exact absurd rfl hxy
    · intro x hx e he
      rcases hmem hx with hx | rfl
      · exact g.apart0 x hx e he
      · exact (hap e (List.mem_append_left _ he)).1
    · intro x hx o' ho' u es k1 k2 k3 k4
      rcases hmem hx with hx | rfl
      · have := hGi x hx
        rw [envT_upd (by omega), updN_lt this]
        exact g.ins x hx o' ho' u es k1 k2 k3 k4
      · rw [ho] at ho'; obtain rfl := Option.some.inj ho'
        rw [envT_upd (Nat.le_refl _), updN_same]
        exact hins u es k1 k2 k3 k4
  refine ⟨⟨?_, ?_, ?_, ?_, ?_, ?_, ?_, ?_, ?_, C.slot_new ho hs⟩, g'⟩
  · intro j o' a S hj ho' ha hS
    by_cases hal : a = l
    · subst hal
      obtain ⟨x, hx⟩ := (g'.mbs j).2 ⟨hj, ha⟩
      rw [memJn_eq, memJn_eq]
      exact g'.does hx ho' hS
    · rcases lt_split hj with h | rfl
      · have h2 := (old h).1 ha
        have := C.lt j a h h2
        have hal : a < l := by omega
        rw [envT_upd (by omega), updN_lt h, memJn_lt hal, memJn_lt hal]
        exact C.does j o' a S h ho' h2 hS
      · rw [updN_same] at ha; exact absurd (Option.some.inj ha).symm hal
  · intro j a hj ha
    rcases lt_split hj with h | rfl
    · exact C.lt j a h ((old h).1 ha)
    · rw [updN_same] at ha; obtain rfl := Option.some.inj ha; omega
  · intro j o' a S hj ho' ha hpos h1 h2
    rcases lt_split hj with h | rfl
    rotate_left
    · rw [updN_same] at ha; exact nomatch ha
    rw [updN_lt h] at ha
    rw [envT_upd (by omega), updN_lt h]
    have h1' : ∀ e b, e < i → eff e = some b → Anc ops j e → b < a ∨ b = a ∧ S e = true := fun e b he hb => h1 e b (by omega) ((old he).2 hb)
    have h2' : ∀ e b, e < i → eff e = some b → Anc ops e j → a < b ∨ b = a ∧ S e = false := fun e b he hb => h2 e b (by omega) ((old he).2 hb)
    by_cases hal : a < l
    · rw [memJn_lt hal]
      refine C.reads j o' a S h ho' ha (.inr ⟨by omega, ?_⟩) h1' h2'
      rcases hpos with rfl | ⟨_, e, he, hea, heS⟩
      · omega
      · rcases lt_split he with h3 | rfl
        · exact ⟨e, h3, (old h3).1 hea, heS⟩
        · rw [updN_same] at hea; have := Option.some.inj hea; omega
    · have key : ∀ u, MemSub u (delB mb b) → Does P ρ ops n o' (envT ops val env0 j) u (val j) u := by
        rcases hr j o' h ho' ha with ⟨e, b', he, hb, hbl, hanc⟩ | hD
        · rcases h2' e b' he hb hanc with h3 | ⟨h3, _⟩ <;> omega
        · exact hD
      by_cases hal2 : a = l
      · subst hal2
        rw [memJn_eq]
        exact key _ (grpM_sub _ _ _ _ _)
      · rw [memJn_gt (by omega)]
        exact key _ (setB_sub _ _ _)
  · intro a ha
    obtain ⟨j, hj, h⟩ := C.onto a ha
    exact ⟨j, by omega, (old hj).2 h⟩
  · intro j j' a a' hj hj' h h' hlt
    rcases lt_split hj with hji | rfl <;> rcases lt_split hj' with hji' | rfl
    · exact C.chain j j' a a' hji hji' ((old hji).1 h) ((old hji').1 h') hlt
    · rw [updN_same] at h'; obtain rfl := Option.some.inj h'
      exact hall j a hji ((old hji).1 h) hlt
    · rw [updN_same] at h; obtain rfl := Option.some.inj h
      have := C.lt j' a' hji' ((old hji').1 h'); omega
    · rw [updN_same] at h h'; have := Option.some.inj h; have := Option.some.inj h'; omega
  · intro a S S' hak h h'
    by_cases hal : a < l
    · rw [memJn_lt hal]
      have h0 : ∀ j, j < i → eff j = some a → S j = true := fun j hj hja => h j (by omega) ((old hj).2 hja)
      have h0' : ∀ j, j < i → eff j = some (a + 1) → S' j = false := fun j hj hja => h' j (by omega) ((old hj).2 hja)
      by_cases hal2 : a + 1 < l
      · rw [memJn_lt hal2]
        exact C.full a S S' (by omega) h0 h0'
      · have hal3 : a + 1 = l := by omega
        rw [C.full a S S' (by omega) h0 h0', hal3, memJn_eq, g.mems]
        rw [hal3] at h' h0'
        rw [grpM_none (insL_none fun x hx => h0' x.1 (hGi x hx) ((g.mbs x.1).1 ⟨x.2, hx⟩).2)]
        rw [grpM_none (insL_none fun x hx => h' x.1 ((g'.mbs x.1).1 ⟨x.2, hx⟩).1 ((g'.mbs x.1).1 ⟨x.2, hx⟩).2)]
    · obtain rfl : a = l := by omega
      have e := insL_all (G := G ++ [(i, kv)]) (S := S) fun x hx => h x.1 ((g'.mbs x.1).1 ⟨x.2, hx⟩).1 ((g'.mbs x.1).1 ⟨x.2, hx⟩).2
      rw [memJn_eq, memJn_gt (by omega), grpM_pos (by rw [e]; simp), e]
  · intro a S S' h
    by_cases hal : a < l
    · rw [memJn_lt hal, memJn_lt hal]
      exact C.ext a S S' fun j hj hja => h j (by omega) ((old hj).2 hja)
    · by_cases hal2 : a = l
      · subst hal2
        rw [memJn_eq, memJn_eq]
        have e := insL_congr (G := G ++ [(i, kv)]) (S := S) (S' := S') fun x hx => h x.1 ((g'.mbs x.1).1 ⟨x.2, hx⟩).1 ((g'.mbs x.1).1 ⟨x.2, hx⟩).2
        unfold grpM; rw [e]
      · rw [memJn_gt (by omega), memJn_gt (by omega)]
  · intro a S h
    exact memJn_gt (by omega)
  · by_cases hl : 0 < l
    · rw [memJn_lt hl]; exact C.start
    · obtain rfl : l = 0 := by omega
      have h1 := C.start
      rw [g.mems, grpM_none (insL_none fun x _ => rfl)] at h1
      rw [memJn_eq, grpM_none (insL_none fun x _ => rfl)]
      exact h1
end step
end cert

end Go.Sy

/-
  What is proved here: a region whose order is drawn does what its run in the order of the text says, in every order.
  Conditions: none.
-/
namespace Go.Sy

section run
variable {P : Program} {ρ : Nat → Int} {ops : Array Oper} {n : Nat} {env0 : Env} {m0 : Mem}

/-- an operation that reads, where more of the memory is known -/
theorem does_rd' {o : Oper} {env : Env} {cf : FuncId → List V → M V} {m : Mem} {p q p1 q1 : Pc} {f : R V} {v : V} {u d : Mem} (hp : PcR ρ p) (h : (guardO o.guard (fun g => guardR ops g n env)).gives ρ m p true q) (hk : evKind o.op P cf env = .rd f) (hp1 : PcR ρ p1) (hsub : MemSub u d) (hf : f.gives ρ d p1 v q1) :
    Does P ρ ops n o env u v u := by
  intro c w a hc hm he K Q hK
  rw [if_pos (guardO_ok hp h hc he)]
  subst hc
  rw [← look_kind (ops := ops) (o := o)] at hk
  obtain ⟨_, z, h4, h5⟩ := rd_ok (hsub.rel hm) hp1 he.full hk hf
  refine .inl ?_
  unfold Oper.wp
  rw [h4]
  exact hK c w z (Step.refl hm) h5

/-- what the evaluator remembers -/
structure Mind (P : Program) (ρ : Nat → Int) (ops : Array Oper) (n : Nat) (env0 : Env) (i k : Nat) (val : Nat → V) (eff : Nat → Option Nat) (mem : Nat → (Nat → Bool) → Mem) (cur : Mem) (sn : List Sn) (ws : List Wt) : Prop where
  len : sn.length = k
  sns : ∀ a s, sn.reverse[a]? = some s → (∀ j, s.e.testBit j = true ↔ j < i ∧ eff j = some a) ∧ ∀ S : Nat → Bool, (∃ e, e < i ∧ eff e = some a ∧ S e = false) → MemSub (mem a S) s.m
  grp : ∀ s r b kt, sn = s :: r → s.g = some (b, kt) → ∃ mb es0 G, s.m = delB mb b ∧ GrpI P ρ ops n env0 i r.length val eff mem cur b kt mb es0 G
  wss : ∀ (j : Nat) (o : Oper), j < i → ops[j]? = some o → eff j = none → (∃ e b s, e < i ∧ eff e = some b ∧ Anc ops e j ∧ sn.reverse[b]? = some s ∧ s.g = none) ∨ (∀ u, Does P ρ ops n o (envT ops val env0 j) u (val j) u) ∨
    ∃ w ∈ ws, w.i = j ∧ PcR ρ w.p ∧ ∀ u d q, MemSub u d → w.f.gives ρ d w.p w.v q → Does P ρ ops n o (envT ops val env0 j) u (val j) u

theorem rev_head {s : Sn} {r : List Sn} : (s :: r).reverse[r.length]? = some s := by
  rw [List.reverse_cons, List.getElem?_append_right (by simp)]
  simp

theorem rev_tail {s : Sn} {r : List Sn} {a : Nat} (h : a < r.length) : (s :: r).reverse[a]? = r.reverse[a]? := by
  rw [List.reverse_cons, List.getElem?_append_left (by simpa using h)]

section step
variable {i k : Nat} {val : Nat → V} {eff : Nat → Option Nat} {mem : Nat → (Nat → Bool) → Mem} {cur m1 : Mem} {sn : List Sn} {ws : List Wt} {o : Oper} {v : V} {A : Nat}

/-- what comes before -/
theorem anc_of_last (C : Cert P ρ ops n env0 m0 i k val eff mem cur) (hA : ∀ b, A.testBit b = true → Anc ops i b) {t : List Sn} (hb : ∀ s r, t = s :: r → ∀ j, s.e.testBit j = true ↔ j < i ∧ eff j = some r.length) (hl : lastOk A t = true) (hk : t.length ≤ k) :
    ∀ j a, j < i → eff j = some a → a < t.length → Anc ops i j := by
  intro j a hj hja hlt
  cases t with
  | nil => exact absurd hlt (by simp)
  | cons s r =>
    have hl : subN s.e A = true := hl
    have hb := hb s r rfl
    simp only [List.length_cons] at hlt hk
    by_cases har : a = r.length
    · subst har
      exact hA _ (subN_bit hl ((hb j).2 ⟨hj, hja⟩))
    · obtain ⟨e, he, hea⟩ := C.onto r.length (by omega)
      exact (hA _ (subN_bit hl ((hb e).2 ⟨he, hea⟩))).trans (C.chain j e a r.length hj he hja hea (by omega))

theorem Mind.bits (N : Mind P ρ ops n env0 i k val eff mem cur sn ws) : ∀ s r, sn = s :: r → ∀ j, s.e.testBit j = true ↔ j < i ∧ eff j = some r.length := by
  rintro s r rfl
  exact (N.sns r.length s rev_head).1

theorem Mind.bits2 {s0 : Sn} {t : List Sn} (N : Mind P ρ ops n env0 i k val eff mem cur (s0 :: t) ws) : ∀ s r, t = s :: r → ∀ j, s.e.testBit j = true ↔ j < i ∧ eff j = some r.length := by
  rintro s r rfl
  refine (N.sns r.length s ?_).1
  rw [rev_tail (by simp)]
  exact rev_head

theorem testBit_pow {i j : Nat} : (Nat.pow 2 i).testBit j = true ↔ j = i := by
  show (2 ^ i).testBit j = true ↔ j = i
  rw [Nat.testBit_two_pow]
  simp
  exact eq_comm

/-- the memories that were, with a new level -/
theorem sns_lv (C : Cert P ρ ops n env0 m0 i k val eff mem cur) (N : Mind P ρ ops n env0 i k val eff mem cur sn ws) {s0 : Sn} (h0 : s0.e = Nat.pow 2 i) (hm : MemSub cur s0.m) :
    ∀ a s, (s0 :: sn).reverse[a]? = some s → (∀ j, s.e.testBit j = true ↔ j < i + 1 ∧ updN eff i (some k) j = some a) ∧ ∀ S : Nat → Bool, (∃ e, e < i + 1 ∧ updN eff i (some k) e = some a ∧ S e = false) → MemSub (memLv mem cur m1 i k a S) s.m := by
  intro a s hs
  have hlen := N.len
  by_cases hak : a < k
  · rw [rev_tail (by omega)] at hs
    obtain ⟨h1, h2⟩ := N.sns a s hs
    refine ⟨fun j => ?_, fun S hS => ?_⟩
    · rw [h1 j]
      constructor
      · rintro ⟨h3, h4⟩; exact ⟨by omega, by rw [updN_lt h3]; exact h4⟩
      · rintro ⟨h3, h4⟩
        rcases lt_split h3 with h5 | rfl
        · rw [updN_lt h5] at h4; exact ⟨h5, h4⟩
        · rw [updN_same] at h4; have := Option.some.inj h4; omega
    · rw [memLv_lt hak]
      obtain ⟨e, h3, h4, h5⟩ := hS
      rcases lt_split h3 with h6 | rfl
      · rw [updN_lt h6] at h4; exact h2 S ⟨e, h6, h4, h5⟩
      · rw [updN_same] at h4; have := Option.some.inj h4; omega
  · have hlt := (List.getElem?_eq_some_iff.1 hs).1
    simp only [List.length_reverse, List.length_cons] at hlt
    have hak : a = sn.length := by omega
    subst hak
    rw [rev_head] at hs
    obtain rfl := Option.some.inj hs
    rw [hlen]
    refine ⟨fun j => ?_, fun S hS => ?_⟩
    · rw [h0, testBit_pow]
      constructor
      · rintro rfl; exact ⟨by omega, updN_same⟩
      · rintro ⟨h3, h4⟩
        rcases lt_split h3 with h5 | h5
        · rw [updN_lt h5] at h4
          have := C.lt j _ h5 h4; omega
        · exact h5
    · obtain ⟨e, h3, h4, h5⟩ := hS
      rcases lt_split h3 with h6 | rfl
      · rw [updN_lt h6] at h4
        have := C.lt e _ h6 h4; omega
      · rw [memLv_no h5]; exact hm

theorem Mind.hr (N : Mind P ρ ops n env0 i k val eff mem cur sn ws) (hA : ∀ b, A.testBit b = true → Anc ops i b) (hw : ∀ w ∈ ws, bitB A w.i = true ∨ ∃ d, MemSub m1 d ∧ sameAt w.f w.v w.p d = true) :
    ∀ (j : Nat) (o' : Oper), j < i → ops[j]? = some o' → eff j = none → (∃ e b, e < i ∧ eff e = some b ∧ Anc ops e j) ∨ Anc ops i j ∨ Does P ρ ops n o' (envT ops val env0 j) m1 (val j) m1 := by
  intro j o' hj ho' ha
  rcases N.wss j o' hj ho' ha with ⟨e, b, s, he, hb, hanc, _⟩ | hany | ⟨w, hwm, rfl, hwp, hwd⟩
  · exact .inl ⟨e, b, he, hb, hanc⟩
  · exact .inr (.inr (hany m1))
  · rcases hw w hwm with h3 | ⟨d, h3, h4⟩
    · exact .inr (.inl (hA _ (bitB_iff h3)))
    · obtain ⟨q, hq⟩ := sameAt_ok (ρ := ρ) h4
      exact .inr (.inr (hwd m1 d q h3 hq))

/-- what is remembered of reads, with a new level -/
theorem Mind.wss_lv (N : Mind P ρ ops n env0 i k val eff mem cur sn ws) (hA : ∀ b, A.testBit b = true → Anc ops i b) {s0 : Sn} {ws' : List Wt} (hsub : ∀ w ∈ ws, w ∈ ws' ∨ bitB A w.i = true ∧ s0.g = none) :
    ∀ (j : Nat) (o' : Oper), j < i + 1 → ops[j]? = some o' → updN eff i (some k) j = none → (∃ e b s, e < i + 1 ∧ updN eff i (some k) e = some b ∧ Anc ops e j ∧ (s0 :: sn).reverse[b]? = some s ∧ s.g = none) ∨
      (∀ u, Does P ρ ops n o' (envT ops (updN val i v) env0 j) u (updN val i v j) u) ∨
      ∃ w ∈ ws', w.i = j ∧ PcR ρ w.p ∧ ∀ u d q, MemSub u d → w.f.gives ρ d w.p w.v q → Does P ρ ops n o' (envT ops (updN val i v) env0 j) u (updN val i v j) u := by
  intro j o' hj ho' ha
  have hlen := N.len
  rcases lt_split hj with h | rfl
  · rw [updN_lt h] at ha
    rw [envT_upd (by omega), updN_lt h]
    rcases N.wss j o' h ho' ha with ⟨e, b, s, he, hb, hanc, hs, hg⟩ | hany | ⟨w, hwm, rfl, hwp, hwd⟩
    · refine .inl ⟨e, b, s, by omega, by rw [updN_lt he]; exact hb, hanc, ?_, hg⟩
      rw [rev_tail (by have := (List.getElem?_eq_some_iff.1 hs).1; simpa using this)]; exact hs
    · exact .inr (.inl hany)
    · rcases hsub w hwm with h3 | ⟨h3, h4⟩
      · exact .inr (.inr ⟨w, h3, rfl, hwp, hwd⟩)
      · exact .inl ⟨i, k, s0, by omega, updN_same, hA _ (bitB_iff h3), by rw [← hlen]; exact rev_head, h4⟩
  · rw [updN_same] at ha; exact nomatch ha

/-- behind one more operation that writes -/
theorem Mind.addEff (C : Cert P ρ ops n env0 m0 i k val eff mem cur) (N : Mind P ρ ops n env0 i k val eff mem cur sn ws) (hA : ∀ b, A.testBit b = true → Anc ops i b) :
    Mind P ρ ops n env0 (i + 1) (k + 1) (updN val i v) (updN eff i (some k)) (memLv mem cur m1 i k) m1 (⟨Nat.pow 2 i, cur, none⟩ :: sn) (keepL (fun w => bitB A w.i) ws) := by
  refine ⟨by simp [N.len], sns_lv C N rfl (.refl _), fun s r b kt h hg => ?_, N.wss_lv hA fun w hw => ?_⟩
  · obtain ⟨rfl, _⟩ := List.cons.inj h
    exact nomatch hg
  · cases hb : bitB A w.i with
    | true => exact .inr ⟨rfl, rfl⟩
    | false => exact .inl (keepL_mem hw hb)

/-- behind the first entry of a map -/
theorem Mind.addIns (C : Cert P ρ ops n env0 m0 i k val eff mem cur) (N : Mind P ρ ops n env0 i k val eff mem cur sn ws) (hA : ∀ b, A.testBit b = true → Anc ops i b) {b : Nat} {kt : TypeId} {es : List (V × V)} {kv : V × V} (hb : PmAt cur b es) (ho : ops[i]? = some o)
    (hins : ∀ (u : Mem) (es : List (V × V)), u.nb = cur.nb → u.nt = cur.nt → PmAt u b es → (∀ e ∈ es, Apart P kt cur.nb cur.nt ρ kv.1 e.1) → Does P ρ ops n o (envT ops val env0 i) u v (setB u b (.pm (es ++ [kv]) true)))
    (hap : ∀ e ∈ es, Apart P kt cur.nb cur.nt ρ kv.1 e.1) :
    Mind P ρ ops n env0 (i + 1) (k + 1) (updN val i v) (updN eff i (some k)) (memLv mem cur (setB cur b (.pm (es ++ [kv]) true)) i k) (setB cur b (.pm (es ++ [kv]) true)) (⟨Nat.pow 2 i, delB cur b, some (b, kt)⟩ :: sn) ws := by
  refine ⟨by simp [N.len], sns_lv C N rfl (delB_sub _ _), fun s r b' kt' h hg => ?_, N.wss_lv hA fun w hw => .inl hw⟩
  obtain ⟨rfl, rfl⟩ := List.cons.inj h
  have hg : some (b, kt) = some (b', kt') := hg
  obtain ⟨rfl, rfl⟩ := Prod.mk.inj (Option.some.inj hg)
  have hlen := N.len
  refine ⟨cur, es, [(i, kv)], rfl, hb, rfl, fun S => ?_, fun j => ?_, by simp, by simp, ?_, ?_, ?_⟩
  · rw [hlen]
    cases hS : S i with
    | true => rw [memLv_yes hS, grpM_pos (by simp [insL, hS])]; simp [insL, hS]
    | false => rw [memLv_no hS, grpM_none (by simp [insL, hS])]
  · rw [hlen]
    constructor
    · rintro ⟨x, hx⟩
      have hx : (j, x) = (i, kv) := by simpa using hx
      obtain rfl : j = i := congrArg Prod.fst hx
      exact ⟨by omega, updN_same⟩
    · rintro ⟨h1, h2⟩
      rcases lt_split h1 with h3 | rfl
      · rw [updN_lt h3] at h2
        have := C.lt j _ h3 h2; omega
      · exact ⟨kv, .head _⟩
  · intro x hx y hy hne
    have hx : x = (i, kv) := by simpa using hx
    have hy : y = (i, kv) := by simpa using hy
    subst hx hy
    exact absurd rfl hne
  · intro x hx e he
    have hx : x = (i, kv) := by simpa using hx
    subst hx
    exact hap e he
  · intro x hx o' ho' u es' k1 k2 k3 k4
    have hx : x = (i, kv) := by simpa using hx
    subst hx
    rw [ho] at ho'; obtain rfl := Option.some.inj ho'
    show Does P ρ ops n o (envT ops (updN val i v) env0 i) u (updN val i v i) _
    rw [envT_upd (Nat.le_refl _), updN_same]
    exact hins u es' k1 k2 k3 k4

theorem Mind.addRead (N : Mind P ρ ops n env0 i k val eff mem cur sn ws) (ho : ops[i]? = some o) {ws' : List Wt} (hsub : ∀ w ∈ ws, w ∈ ws')
    (hw : (∀ u, Does P ρ ops n o (envT ops val env0 i) u v u) ∨ ∃ w ∈ ws', w.i = i ∧ PcR ρ w.p ∧ ∀ u d q, MemSub u d → w.f.gives ρ d w.p w.v q → Does P ρ ops n o (envT ops val env0 i) u v u) :
    Mind P ρ ops n env0 (i + 1) k (updN val i v) (updN eff i none) mem cur sn ws' := by
  have old : ∀ {j a}, j < i + 1 ∧ updN eff i none j = some a ↔ j < i ∧ eff j = some a := by
    intro j a
    constructor
    · rintro ⟨hj, h⟩
      rcases lt_split hj with h1 | rfl
      · rw [updN_lt h1] at h; exact ⟨h1, h⟩
      · rw [updN_same] at h; exact nomatch h
    · rintro ⟨hj, h⟩
      exact ⟨by omega, by rw [updN_lt hj]; exact h⟩
  refine ⟨N.len, fun a s hs => ?_, fun s r b kt h hg => ?_, fun j o' hj ho' ha => ?_⟩
  · obtain ⟨h1, h2⟩ := N.sns a s hs
    refine ⟨fun j => (h1 j).trans old.symm, fun S hS => ?_⟩
    obtain ⟨e, h3, h4, h5⟩ := hS
    obtain ⟨h6, h7⟩ := old.1 ⟨h3, h4⟩
    exact h2 S ⟨e, h6, h7, h5⟩
  · obtain ⟨mb, es0, G, h1, g⟩ := N.grp s r b kt h hg
    refine ⟨mb, es0, G, h1, g.pm, g.now, g.mems, fun j => (g.mbs j).trans old.symm, g.nodup, g.ne, g.apart, g.apart0, fun x hx o' ho' => ?_⟩
    have := ((g.mbs x.1).1 ⟨x.2, hx⟩).1
    rw [envT_upd (by omega), updN_lt this]
    exact g.ins x hx o' ho'
  · rcases lt_split hj with h | rfl
    · rw [updN_lt h] at ha
      rw [envT_upd (by omega), updN_lt h]
      rcases N.wss j o' h ho' ha with ⟨e, b, s, he, hb, hanc, hs⟩ | hany | ⟨w, hwm, hwi, hwd⟩
      · exact .inl ⟨e, b, s, by omega, by rw [updN_lt he]; exact hb, hanc, hs⟩
      · exact .inr (.inl hany)
      · exact .inr (.inr ⟨w, hsub w hwm, hwi, hwd⟩)
    · rw [ho] at ho'; obtain rfl := Option.some.inj ho'
      rw [envT_upd (Nat.le_refl _), updN_same]
      exact .inr hw

/-- behind one more entry in the last level -/
theorem Mind.addJoin {s : Sn} {r : List Sn} {b : Nat} {kt : TypeId} {mb : Mem} {es0 : List (V × V)} {G : List (Nat × (V × V))} {kv : V × V} (N : Mind P ρ ops n env0 i k val eff mem cur (s :: r) ws) (hg : s.g = some (b, kt)) (hm : s.m = delB mb b)
    (g : GrpI P ρ ops n env0 (i + 1) r.length (updN val i v) (updN eff i (some r.length)) (memJn mem (grpM mb b es0 (G ++ [(i, kv)])) m1 r.length) m1 b kt mb es0 (G ++ [(i, kv)])) :
    Mind P ρ ops n env0 (i + 1) (r.length + 1) (updN val i v) (updN eff i (some r.length)) (memJn mem (grpM mb b es0 (G ++ [(i, kv)])) m1 r.length) m1 (⟨Nat.lor s.e (Nat.pow 2 i), s.m, s.g⟩ :: r) ws := by
  have hk : k = r.length + 1 := by rw [← N.len]; rfl
  refine ⟨by simp, fun a s' hs => ?_, fun s' r' b' kt' h hg' => ?_, fun j o' hj ho' ha => ?_⟩
  · by_cases hal : a < r.length
    · rw [rev_tail hal] at hs
      obtain ⟨h1, h2⟩ := N.sns a s' (by rw [rev_tail hal]; exact hs)
      refine ⟨fun j => ?_, fun S hS => ?_⟩
      · rw [h1 j]
        constructor
        · rintro ⟨h3, h4⟩; exact ⟨by omega, by rw [updN_lt h3]; exact h4⟩
        · rintro ⟨h3, h4⟩
          rcases lt_split h3 with h5 | rfl
          · rw [updN_lt h5] at h4; exact ⟨h5, h4⟩
          · rw [updN_same] at h4; have := Option.some.inj h4; omega
      · rw [memJn_lt hal]
        obtain ⟨e, h3, h4, h5⟩ := hS
        rcases lt_split h3 with h6 | rfl
        · rw [updN_lt h6] at h4; exact h2 S ⟨e, h6, h4, h5⟩
        · rw [updN_same] at h4; have := Option.some.inj h4; omega
    · have hlt := (List.getElem?_eq_some_iff.1 hs).1
      simp only [List.length_reverse, List.length_cons] at hlt
      obtain rfl : a = r.length := by omega
      rw [rev_head] at hs
      obtain rfl := Option.some.inj hs
      obtain ⟨h1, _⟩ := N.sns r.length s rev_head
      refine ⟨fun j => ?_, fun S _ => ?_⟩
      · show (s.e ||| 2 ^ i).testBit j = true ↔ _
        have e2 : ((2 : Nat) ^ i).testBit j = true ↔ j = i := testBit_pow
        rw [Nat.testBit_or, Bool.or_eq_true, h1 j, e2]
        constructor
        · rintro (⟨h3, h4⟩ | rfl)
          · exact ⟨by omega, by rw [updN_lt h3]; exact h4⟩
          · exact ⟨by omega, updN_same⟩
        · rintro ⟨h3, h4⟩
          rcases lt_split h3 with h5 | rfl
          · rw [updN_lt h5] at h4; exact .inl ⟨h5, h4⟩
          · exact .inr rfl
      · rw [memJn_eq]
        show MemSub _ s.m
        rw [hm]
        exact grpM_sub _ _ _ _ _
  · obtain ⟨rfl, rfl⟩ := List.cons.inj h
    have hg' : s.g = some (b', kt') := hg'
    rw [hg] at hg'
    obtain ⟨rfl, rfl⟩ := Prod.mk.inj (Option.some.inj hg')
    exact ⟨mb, es0, _, hm, g⟩
  · rcases lt_split hj with h | rfl
    · rw [updN_lt h] at ha
      rw [envT_upd (by omega), updN_lt h]
      rcases N.wss j o' h ho' ha with ⟨e, b', s', he, hb, hanc, hs, hsg⟩ | hany | hw
      · have hlt := (List.getElem?_eq_some_iff.1 hs).1
        simp only [List.length_reverse, List.length_cons] at hlt
        have hbl : b' < r.length := by
          by_cases hbl : b' = r.length
          · subst hbl
            rw [rev_head] at hs
            obtain rfl := Option.some.inj hs
            rw [hg] at hsg; exact nomatch hsg
          · omega
        rw [rev_tail hbl] at hs
        exact .inl ⟨e, b', s', by omega, by rw [updN_lt he]; exact hb, hanc, by rw [rev_tail hbl]; exact hs, hsg⟩
      · exact .inr (.inl hany)
      · exact .inr (.inr hw)
    · rw [updN_same] at ha; exact nomatch ha

theorem pmOf_gives {α : Type} {u : Mem} {b : Nat} {f : List (V × V) → T α} {s : String} {r : α} (h : (pmOf (u.tr.get b) f (.fail s)).out ρ = some r) : ∃ es, PmAt u b es ∧ (f es).out ρ = some r := by
  have h : (onPm (u.tr.get b) (fun es wr => selB wr (f es) (.fail s)) (onMapB (u.tr.get b) (fun es _ wr => selB wr (f (es.map fun e => (e.1, e.2.1))) (.fail s)) (.fail s))).out ρ = some r := h
  rcases onPm_cases (b := u.tr.get b) (fun es wr => selB wr (f es) (.fail s)) (onMapB (u.tr.get b) (fun es _ wr => selB wr (f (es.map fun e => (e.1, e.2.1))) (.fail s)) (.fail s)) with ⟨es, wr, hb, he⟩ | he <;> rw [he] at h
  · obtain ⟨rfl, h1⟩ := T.out_selB h
    exact ⟨es, .inl hb, h1⟩
  · obtain ⟨es, kk, wr, hb, h1⟩ := onMapB_gives h
    obtain ⟨rfl, h2⟩ := T.out_selB h1
    exact ⟨_, .inr ⟨es, kk, hb, rfl⟩, h2⟩

theorem isG_ok {g : Option (Nat × TypeId)} {b : Nat} {kt : TypeId} (h : isG g b kt = true) : g = some (b, kt) := by
  cases g with
  | none => exact nomatch h
  | some x =>
    obtain ⟨h1, h2⟩ := andB_ok (show andB (Nat.beq x.1 b) (Nat.beq x.2 kt) = true from h)
    rw [beq_iff] at h1 h2
    rw [← h1, ← h2]
end step

/-- the run in the order of the text gives a certificate -/
theorem evDr_ok {cf : FuncId → List V → M V} (hcf : CallsOK P ρ cf) : ∀ {l : List Oper} {i k : Nat} {val : Nat → V} {eff : Nat → Option Nat} {mem : Nat → (Nat → Bool) → Mem} {cur : Mem} {sn : List Sn} {ws : List Wt} {look : Nat → Nat} {p q : Pc} {env' : Env} {m' : Mem},
    ops.toList.drop i = l → i + l.length = ops.size → (∀ j b, (look j).testBit b = true → Anc ops j b) → PcR ρ p → Cert P ρ ops n env0 m0 i k val eff mem cur → Mind P ρ ops n env0 i k val eff mem cur sn ws →
    (evDr l ops P cf n i look (envT ops val env0 i) sn ws).gives ρ cur p env' m' q →
    ∃ k' val' eff' mem', Cert P ρ ops n env0 m0 ops.size k' val' eff' mem' m' ∧ env' = envT ops val' env0 ops.size ∧ PcR ρ q
  | [], i, k, val, eff, mem, cur, sn, ws, look, p, q, env', m', hd, hi, hl, hp, C, N, h => by
    obtain ⟨rfl, rfl, rfl⟩ := M.gives_pure (show (M.pure (envT ops val env0 i)).gives ρ cur p env' m' q from h)
    have : i = ops.size := by simpa using hi
    subst this
    exact ⟨k, val, eff, mem, C, rfl, hp⟩
  | o :: l, i, k, val, eff, mem, cur, sn, ws, look, p, q, env', m', hd, hi, hl, hp, C, N, h => by
    have ho : ops[i]? = some o := by
      have : (ops.toList.drop i)[0]? = some o := by rw [hd]; rfl
      simpa using this
    have hd' : ops.toList.drop (i + 1) = l := by rw [← List.drop_drop, hd]; rfl
    have hi' : i + 1 + l.length = ops.size := by simp at hi; omega
    have hA : ∀ b, (ancOf o.after.toList look).testBit b = true → Anc ops i b := ancOf_ok hl ho _ (fun e he => by simpa using he)
    have hl' := putN_ok hl hA
    have hdst : dstAt ops i = o.dst := by unfold dstAt; rw [ho]; rfl
    have henv : ∀ v, envT ops (updN val i v) env0 (i + 1) = putE o.dst (envT ops val env0 i) v := fun v => by
      rw [envT, envT_upd (Nat.le_refl _), updN_same, hdst]
    have h : (forceN (ancOf o.after.toList look) fun A => fun m p =>
        (guardO o.guard (fun g => guardR ops g n (envT ops val env0 i)) m p).bndpq p fun w p => (Bool.rec
          (selB (slotOk o.dst n) (evDr l ops P cf n (i + 1) (putN look i A) (putE o.dst (envT ops val env0 i) undefV) sn ws m p) (.fail "a slot beyond the frame"))
          (Option.rec (Kd.rec (fun f => drRd o.dst n i A (envT ops val env0 i) sn ws f (evDr l ops P cf n (i + 1) (putN look i A)) m p)
            (fun f => drEf o.dst n i A (envT ops val env0 i) sn ws (allocM f) (evDr l ops P cf n (i + 1) (putN look i A)) m p)
            (fun f => drEf o.dst n i A (envT ops val env0 i) sn ws f (evDr l ops P cf n (i + 1) (putN look i A)) m p) (evKind o.op P cf (envT ops val env0 i)))
            (fun x => drIns P o.dst n i A (envT ops val env0 i) sn ws x (evDr l ops P cf n (i + 1) (putN look i A)) m p) (insOf o.op P (envT ops val env0 i))) w : T (Rs Env)) : M Env).gives ρ cur p env' m' q := h
    have h := (congrArg (fun x : M Env => M.gives ρ x cur p env' m' q) (forceN_eq (α := M Env) (ancOf o.after.toList look) _)).mp h
    obtain ⟨⟨w, pw⟩, p1, hg, hp1, h⟩ := T.out_bndpq hp h
    have hg : (guardO o.guard (fun g => guardR ops g n (envT ops val env0 i))).gives ρ cur p w pw := hg
    generalize ancOf o.after.toList look = A at h hA hl'
    -- an operation that writes
    have key : ∀ f : M V, (∀ (p1 q1 : Pc) (v : V) (u u' : Mem), PcR ρ p1 → f.gives ρ u p1 v u' q1 → Does P ρ ops n o (envT ops val env0 i) u v u') →
        (drEf o.dst n i A (envT ops val env0 i) sn ws f (evDr l ops P cf n (i + 1) (putN look i A)) cur p1).out ρ = some ⟨env', m', q⟩ →
        ∃ k' val' eff' mem', Cert P ρ ops n env0 m0 ops.size k' val' eff' mem' m' ∧ env' = envT ops val' env0 ops.size ∧ PcR ρ q := by
      intro f hf h
      obtain ⟨h1, h⟩ := T.out_selB h
      obtain ⟨⟨v, m1, pv⟩, p2, h2, hp2, h⟩ := T.out_bndq hp1 h
      obtain ⟨h3, h⟩ := T.out_selB h
      obtain ⟨h4, h⟩ := T.out_selB h
      have hall : ∀ j a, j < i → eff j = some a → Anc ops i j := fun j a hj hja => anc_of_last C hA N.bits h1 (Nat.le_of_eq N.len) j a hj hja (by rw [N.len]; exact C.lt j a hj hja)
      have hr := N.hr (m1 := m1) hA fun w hw => by
        rcases orB_ok (allL_ok h3 w hw) with h5 | h5
        · exact .inl h5
        · exact .inr ⟨m1, .refl _, h5⟩
      have C' := C.addLevel ho (hf p1 pv v cur m1 hp1 h2) h4 hall hr
      have N' := N.addEff (v := v) (m1 := m1) C hA
      have h : (evDr l ops P cf n (i + 1) (putN look i A) (putE o.dst (envT ops val env0 i) v) (⟨Nat.pow 2 i, cur, none⟩ :: sn) (keepL (fun w => bitB A w.i) ws)).gives ρ m1 p2 env' m' q := h
      rw [← henv v] at h
      exact evDr_ok hcf hd' hi' hl' hp2 C' N' h
    cases w with
    | false =>
      obtain ⟨h4, h⟩ := T.out_selB h
      have hno := fun u => does_no (P := P) hp hg u
      have C' := C.addRead (v := undefV) ho h4 (fun a S _ _ => hno (mem a S))
      have N' := N.addRead (v := undefV) ho (ws' := ws) (fun w hw => hw) (.inl hno)
      have h : (evDr l ops P cf n (i + 1) (putN look i A) (putE o.dst (envT ops val env0 i) undefV) sn ws).gives ρ cur p1 env' m' q := h
      rw [← henv] at h
      exact evDr_ok hcf hd' hi' hl' hp1 C' N' h
    | true =>
      cases hins : insOf o.op P (envT ops val env0 i) with
      | some x =>
        rw [hins] at h
        have h : (pmOf (cur.tr.get x.b) (fun es => selB (allL (fun e => apartK P x.kt cur.nb cur.nt p1 x.k e.1) es)
            (Option.rec (.fail "two operations with no order") (fun sn' => selB (allL (fun w => sameAt w.f w.v w.p (headM cur sn')) ws)
              (selB (slotOk o.dst n) (evDr l ops P cf n (i + 1) (putN look i A) (putE o.dst (envT ops val env0 i) undefV) sn' ws (setB cur x.b (.pm (es ++ [(x.k, x.v)]) true)) p1) (.fail "a slot beyond the frame"))
              (.fail "an operation that may have read another value")) (snIns x.b x.kt i A cur sn) : T (Rs Env)) (.fail "an entry the key")) (.fail "an entry no map")).out ρ = some ⟨env', m', q⟩ := h
        obtain ⟨es, hb, h⟩ := pmOf_gives h
        obtain ⟨h1, h⟩ := T.out_selB h
        obtain ⟨t, mp, kk, y, et, _, hmt, _⟩ := insOf_some hins
        have hkt : keyOK P x.kt = true := (mapOf_some hmt).2
        have hap : ∀ e ∈ es, Apart P x.kt cur.nb cur.nt ρ x.k e.1 ∧ Apart P x.kt cur.nb cur.nt ρ e.1 x.k := fun e he => by
          obtain ⟨h2, h3⟩ := andB_ok (allL_ok h1 e he)
          exact ⟨isNo_ok hkt hp1 h2, isNo_ok hkt hp1 h3⟩
        have hdo : ∀ (u : Mem) (es : List (V × V)), PmAt u x.b es → (∀ e ∈ es, Apart P x.kt u.nb u.nt ρ x.k e.1) → Does P ρ ops n o (envT ops val env0 i) u undefV (setB u x.b (.pm (es ++ [(x.k, x.v)]) true)) := fun u es k1 k2 => does_ins hp hg hins k1 k2
        -- a level of its own
        have lone : lastOk A sn = true → (∀ w ∈ ws, sameAt w.f w.v w.p (delB cur x.b) = true) → slotOk o.dst n = true →
            (evDr l ops P cf n (i + 1) (putN look i A) (putE o.dst (envT ops val env0 i) undefV) (⟨Nat.pow 2 i, delB cur x.b, some (x.b, x.kt)⟩ :: sn) ws).gives ρ (setB cur x.b (.pm (es ++ [(x.k, x.v)]) true)) p1 env' m' q →
            ∃ k' val' eff' mem', Cert P ρ ops n env0 m0 ops.size k' val' eff' mem' m' ∧ env' = envT ops val' env0 ops.size ∧ PcR ρ q := by
          intro hl1 hw hs h
          have hall : ∀ j a, j < i → eff j = some a → Anc ops i j := fun j a hj hja => anc_of_last C hA N.bits hl1 (Nat.le_of_eq N.len) j a hj hja (by rw [N.len]; exact C.lt j a hj hja)
          have hr := N.hr (m1 := setB cur x.b (.pm (es ++ [(x.k, x.v)]) true)) hA fun w hw' => .inr ⟨_, setB_sub _ _ _, hw w hw'⟩
          have C' := C.addLevel ho (hdo cur es hb fun e he => (hap e he).1) hs hall hr
          have N' := N.addIns (v := undefV) C hA (kt := x.kt) (kv := (x.k, x.v)) hb ho (fun u es' k1 k2 k3 k4 => hdo u es' k3 fun e he => by rw [k1, k2]; exact k4 e he) fun e he => (hap e he).1
          rw [← henv undefV] at h
          exact evDr_ok hcf hd' hi' hl' hp1 C' N' h
        cases hsn : snIns x.b x.kt i A cur sn with
        | none => rw [hsn] at h; exact nomatch (show (T.fail "two operations with no order" : T (Rs Env)).out ρ = some ⟨env', m', q⟩ from h)
        | some sn' =>
          rw [hsn] at h
          obtain ⟨h2, hrun⟩ := T.out_selB h
          obtain ⟨h3, hrun⟩ := T.out_selB hrun
          have h2 := allL_ok h2
          cases hsl : sn with
          | nil =>
            rw [hsl] at hsn
            obtain rfl := Option.some.inj (show some [⟨Nat.pow 2 i, delB cur x.b, some (x.b, x.kt)⟩] = some sn' from hsn)
            subst hsl
            exact lone rfl h2 h3 hrun
          | cons s r =>
            rw [hsl] at hsn
            have hsn : selB (andB (isG s.g x.b x.kt) (lastOk A r)) (some ((⟨Nat.lor s.e (Nat.pow 2 i), s.m, s.g⟩ : Sn) :: r)) (selB (subN s.e A) (some (⟨Nat.pow 2 i, delB cur x.b, some (x.b, x.kt)⟩ :: s :: r)) none) = some sn' := hsn
            cases hj : andB (isG s.g x.b x.kt) (lastOk A r) with
            | false =>
              rw [hj] at hsn
              have hsn : selB (subN s.e A) (some ((⟨Nat.pow 2 i, delB cur x.b, some (x.b, x.kt)⟩ : Sn) :: s :: r)) none = some sn' := hsn
              cases hsb : subN s.e A with
              | false => rw [hsb] at hsn; exact nomatch (show none = some sn' from hsn)
              | true =>
                rw [hsb] at hsn
                obtain rfl := Option.some.inj (show some ((⟨Nat.pow 2 i, delB cur x.b, some (x.b, x.kt)⟩ : Sn) :: s :: r) = some sn' from hsn)
                subst hsl
                exact lone hsb h2 h3 hrun
            | true =>
              rw [hj] at hsn
              obtain rfl := Option.some.inj (show some ((⟨Nat.lor s.e (Nat.pow 2 i), s.m, s.g⟩ : Sn) :: r) = some sn' from hsn)
              obtain ⟨hj1, hj2⟩ := andB_ok hj
              have hgs := isG_ok hj1
              subst hsl
              obtain ⟨mb, es0, G, hm, g⟩ := N.grp s r x.b x.kt rfl hgs
              have hk : k = r.length + 1 := by rw [← N.len]; rfl
              subst hk
              have hesG : es = es0 ++ G.map (·.2) := by
                have hc : cur.tr.get x.b = some (.pm (es0 ++ G.map (·.2)) true) := by rw [g.now, setB_get, if_pos rfl]
                rcases hb with hb | ⟨es1, k1, hb, _⟩
                · rw [hc] at hb
                  simp at hb
                  exact hb.symm
                · rw [hc] at hb; simp at hb
              have hnb : cur.nb = mb.nb ∧ cur.nt = mb.nt := by rw [g.now]; exact ⟨rfl, rfl⟩
              have hm1 : setB cur x.b (.pm (es ++ [(x.k, x.v)]) true) = setB mb x.b (.pm (es0 ++ (G ++ [(i, (x.k, x.v))]).map (·.2)) true) := by
                rw [g.now, setB_setB, hesG]
                simp
              have h2' : ∀ w ∈ ws, sameAt w.f w.v w.p (delB mb x.b) = true := fun w hw => by rw [← hm]; exact h2 w hw
              obtain ⟨C', g'⟩ := C.addJoin g ho h3 (kv := (x.k, x.v)) (v := undefV)
                (fun u es' k1 k2 k3 k4 => hdo u es' k3 fun e he => by rw [k1, k2]; exact k4 e he)
                (fun e he => by rw [← hesG] at he; rw [← hnb.1, ← hnb.2]; exact hap e he)
                (fun j a hj hja hal => anc_of_last C hA N.bits2 hj2 (by omega) j a hj hja hal)
                (fun j o' hj ho' ha => by
                  rcases N.wss j o' hj ho' ha with ⟨e, b', s', he, hb', hanc, hs, hsg⟩ | hany | ⟨w, hwm, rfl, hwp, hwd⟩
                  · refine .inl ⟨e, b', he, hb', ?_, hanc⟩
                    have := C.lt e b' he hb'
                    by_cases hbl : b' = r.length
                    · subst hbl
                      rw [rev_head] at hs
                      obtain rfl := Option.some.inj hs
                      rw [hgs] at hsg; exact nomatch hsg
                    · omega
                  · exact .inr fun u _ => hany u
                  · obtain ⟨q1, hq1⟩ := sameAt_ok (ρ := ρ) (h2' w hwm)
                    exact .inr fun u hu => hwd u _ q1 hu hq1)
              have N' := N.addJoin hgs hm g'
              have h : (evDr l ops P cf n (i + 1) (putN look i A) (putE o.dst (envT ops val env0 i) undefV) (⟨Nat.lor s.e (Nat.pow 2 i), s.m, s.g⟩ :: r) ws).gives ρ (setB cur x.b (.pm (es ++ [(x.k, x.v)]) true)) p1 env' m' q := hrun
              rw [← henv undefV, hm1] at h
              exact evDr_ok hcf hd' hi' hl' hp1 C' N' h
      | none =>
      rw [hins] at h
      cases hk : evKind o.op P cf (envT ops val env0 i) with
      | al f =>
        rw [hk] at h
        exact key (allocM f) (fun p1 q1 v u u' hp1 hf => does_al hp hg hk hp1 hf) h
      | ef f =>
        rw [hk] at h
        exact key f (fun p1 q1 v u u' hp1 hf => does_ef hcf hp hg hk hp1 hf) h
      | rd f =>
        rw [hk] at h
        obtain ⟨⟨v, pv⟩, p2, h2, hp2, h⟩ := T.out_bndpq hp1 (show ((f cur p1).bndpq p1 fun v p => selB (allL (fun s => orB (subN s.e A) (sameAt f v p s.m)) sn)
          (selB (slotOk o.dst n) (evDr l ops P cf n (i + 1) (putN look i A) (putE o.dst (envT ops val env0 i) v) sn (⟨i, f, v, p⟩ :: ws) cur p) (.fail "a slot beyond the frame"))
          (.fail "an operation that may read another value")).out ρ = some ⟨env', m', q⟩ from h)
        obtain ⟨h3, h⟩ := T.out_selB h
        obtain ⟨h4, h⟩ := T.out_selB h
        have hdo : ∀ (p1 q1 : Pc) (u d : Mem), PcR ρ p1 → MemSub u d → f.gives ρ d p1 v q1 → Does P ρ ops n o (envT ops val env0 i) u v u := fun p1 q1 u d hp1 hs hf => does_rd' hp hg hk hp1 hs hf
        have C' := C.addRead (v := v) ho h4 (fun a S hpos hpre => by
            rcases hpos with rfl | ⟨hlt, e, he, hea, heS⟩
            · rw [C.top a S (Nat.le_refl _)]
              exact hdo p1 pv cur cur hp1 (.refl _) h2
            · have hs1 : a < sn.reverse.length := by simpa [N.len] using hlt
              obtain ⟨g1, g2⟩ := N.sns a _ (List.getElem?_eq_getElem hs1)
              have hsm : sn.reverse[a] ∈ sn := List.mem_reverse.1 (List.getElem_mem _)
              rcases orB_ok (allL_ok h3 _ hsm) with hb | hb
              · have := hpre e a he hea (hA _ (subN_bit hb ((g1 e).2 ⟨he, hea⟩)))
                rcases this with h5 | ⟨_, h5⟩
                · omega
                · rw [heS] at h5; exact nomatch h5
              · obtain ⟨q1, hq1⟩ := sameAt_ok (ρ := ρ) hb
                exact hdo p2 q1 _ _ hp2 (g2 S ⟨e, he, hea, heS⟩) hq1)
        have N' := N.addRead (v := v) ho (ws' := ⟨i, f, v, p2⟩ :: ws) (fun w hw => .tail _ hw) (.inr ⟨_, .head _, rfl, hp2, fun u d q1 hs hq1 => hdo p2 q1 u d hp2 hs hq1⟩)
        have h : (evDr l ops P cf n (i + 1) (putN look i A) (putE o.dst (envT ops val env0 i) v) sn (⟨i, f, v, p2⟩ :: ws)).gives ρ cur p2 env' m' q := h
        rw [← henv] at h
        exact evDr_ok hcf hd' hi' hl' hp2 C' N' h

/-- the slots behind the operations of 'S' -/
noncomputable def envS (ops : Array Oper) (val : Nat → V) (env0 : Env) (S : Nat → Bool) : Nat → Env
  | 0 => env0
  | j + 1 => selB (S j) (putE (dstAt ops j) (envS ops val env0 S j) (val j)) (envS ops val env0 S j)

theorem putE_ne {d : Option Nat} {env : Env} {v : V} {t : Nat} (h : d ≠ some t) : putE d env v t = env t := by
  cases d with
  | none => rfl
  | some d =>
    show (Bool.rec (env t) v (Nat.beq t d) : V) = env t
    cases hb : Nat.beq t d with
    | false => rfl
    | true => rw [beq_iff] at hb; subst hb; exact absurd rfl h

theorem putE_eq {env : Env} {v : V} {t : Nat} : putE (some t) env v t = v := by
  show (Bool.rec (env t) v (Nat.beq t t) : V) = v
  rw [(beq_iff t t).2 rfl]

variable {val : Nat → V}

theorem envS_congr {S S' : Nat → Bool} {t : Nat} : ∀ {N : Nat}, (∀ j, j < N → dstAt ops j = some t → S' j = S j) → envS ops val env0 S' N t = envS ops val env0 S N t
  | 0, _ => rfl
  | N + 1, h => by
    have ih := envS_congr (N := N) fun j hj => h j (by omega)
    rw [envS, envS]
    by_cases hd : dstAt ops N = some t
    · rw [h N (by omega) hd]
      cases S N with
      | false => exact ih
      | true =>
        show putE (dstAt ops N) _ (val N) t = putE (dstAt ops N) _ (val N) t
        rw [hd, putE_eq, putE_eq]
    · have e : ∀ (b : Bool) (env : Env), selB b (putE (dstAt ops N) env (val N)) env t = env t := by
        intro b env
        cases b with
        | false => rfl
        | true => exact putE_ne hd
      rw [e, e]; exact ih

theorem envS_all : ∀ {N : Nat}, envS ops val env0 (fun _ => true) N = envT ops val env0 N
  | 0 => rfl
  | N + 1 => by rw [envS, envT, envS_all]; rfl

theorem envS_cut {i t : Nat} : ∀ {N : Nat}, i ≤ N → envS ops val env0 (fun j => decide (j < i)) N t = envT ops val env0 i t
  | 0, h => by
    have : i = 0 := by omega
    subst this; rfl
  | N + 1, h => by
    rw [envS]
    by_cases hN : N < i
    · have : i = N + 1 := by omega
      subst this
      rw [decide_eq_true hN, envT]
      have e : envS ops val env0 (fun j => decide (j < N + 1)) N = envT ops val env0 N := by
        funext t
        rw [← envS_all]
        exact envS_congr fun j hj _ => by simp; omega
      rw [e]; rfl
    · rw [decide_eq_false hN]
      exact envS_cut (by omega)

/-- one more -/
theorem envS_new {S S' : Nat → Bool} {i t : Nat} (hS' : S' i = true) (h : ∀ j, j ≠ i → S' j = S j) (hd : dstAt ops i = some t) : ∀ {N : Nat}, i < N → (∀ j, i < j → j < N → dstAt ops j = some t → S j = false) → envS ops val env0 S' N t = val i
  | N + 1, hi, hn => by
    rw [envS]
    by_cases hN : N = i
    · subst hN
      rw [hS', hd]
      exact putE_eq
    · have ih := envS_new hS' h hd (N := N) (by omega) fun j h1 h2 => hn j h1 (by omega)
      by_cases hdN : dstAt ops N = some t
      · rw [h N hN, hn N (by omega) (by omega) hdN]
        exact ih
      · cases S' N with
        | false => exact ih
        | true => show putE (dstAt ops N) _ (val N) t = val i; rw [putE_ne hdN]; exact ih

/-- where a run in some order stands -/
structure Mid (P : Program) (ρ : Nat → Int) (ops : Array Oper) (n : Nat) (env0 : Env) (k : Nat) (val : Nat → V) (eff : Nat → Option Nat) (mem : Nat → (Nat → Bool) → Mem) (c0 : Cx) (m0 : Mem) (w0 : World) (a0 : Act) (listed : Array Bool) (a : Act) (w : World) : Prop where
  size : listed.size = ops.size
  closed : ∀ j j', listed.getD j false = true → Anc ops j j' → listed.getD j' false = true
  pos : ∃ x, (x = k ∨ x < k ∧ ∃ e, e < ops.size ∧ eff e = some x ∧ listed.getD e false = false) ∧ (∀ j b, j < ops.size → eff j = some b → (b < x → listed.getD j false = true) ∧ (x < b → listed.getD j false = false)) ∧
    ∃ c, Step c0 m0 w0 c (mem x fun j => listed.getD j false) w ∧ a.tmps.size = n ∧ ∀ t, VR c (envS ops val env0 (fun j => listed.getD j false) ops.size t) (a.tmps.getD t undef)
  defers : a.defers = a0.defers

theorem Anc.lt (F : RegF ops) {i j : Nat} (h : Anc ops i j) : j < i := by
  induction h with
  | edge ho he hb => exact F.edges _ _ _ ho he hb
  | step ho he hb _ ih => exact Nat.lt_trans ih (F.edges _ _ _ ho he hb)

theorem getD_new {listed : Array Bool} {i : Nat} (hi : i < listed.size) : (listed.setIfInBounds i true).getD i false = true := by
  simp [hi]

theorem mid_step (F : RegF ops) {k : Nat} {eff : Nat → Option Nat} {mem : Nat → (Nat → Bool) → Mem} {cur : Mem} (C : Cert P ρ ops n env0 m0 ops.size k val eff mem cur) {c0 : Cx} {w0 : World} {a0 : Act} (hρ : c0.ρ = ρ) (hg0 : GlobR c0) {listed : Array Bool} {a : Act} {w : World}
    (M : Mid P ρ ops n env0 k val eff mem c0 m0 w0 a0 listed a w) {i : Nat} (hi : i ∈ Region.ready .any ops listed) {Q : Exit → Act → World → Prop} {K : Act → World → Prop}
    (hK : ∀ a' w', Mid P ρ ops n env0 k val eff mem c0 m0 w0 a0 (listed.setIfInBounds i true) a' w' → K a' w') : wpOp P ops Q i K a w := by
  obtain ⟨hnl, o, ho, hall⟩ := mem_ready.1 hi
  have hin : i < ops.size := (Array.getElem?_eq_some_iff.1 ho).1
  have hil : i < listed.size := by rw [M.size]; exact hin
  have hnl' : listed.getD i false = false := by
    have : ∀ d, listed.getD i d = listed[i] := fun d => by simp [Array.getD, hil]
    rw [this] at hnl ⊢; exact hnl
  have hdst : dstAt ops i = o.dst := by unfold dstAt; rw [ho]; rfl
  have hanc : ∀ j, Anc ops i j → listed.getD j false = true := by
    intro j hj
    cases hj with
    | edge ho' he hb => rw [ho] at ho'; simp at ho'; subst ho'; exact hall _ he hb
    | step ho' he hb h => rw [ho] at ho'; simp at ho'; subst ho'; exact M.closed _ _ (hall _ he hb) h
  have hnot : ∀ j, Anc ops j i → listed.getD j false = false := by
    intro j hj
    cases hlj : listed.getD j false with
    | false => rfl
    | true => have := M.closed j i hlj hj; rw [hnl'] at this; simp at this
  obtain ⟨x, hxk, hx, c, s, hsz, hsl⟩ := M.pos
  have hxle : x ≤ k := by rcases hxk with rfl | ⟨h, _⟩ <;> omega
  have hrho := s.le.ρ.trans hρ
  -- which operations touch a slot that this one looks at, or writes
  have apart : ∀ j t, j < ops.size → dstAt ops j = some t → (t ∈ looks ops o ∨ o.dst = some t) → j ≠ i → (listed.getD j false = decide (j < i)) := by
    intro j t hj hdj ht hne
    obtain ⟨o', ho'⟩ : ∃ o', ops[j]? = some o' := ⟨ops[j], Array.getElem?_eq_getElem hj⟩
    have hd' : o'.dst = some t := by unfold dstAt at hdj; rw [ho'] at hdj; exact hdj
    by_cases hlt : j < i
    · rw [decide_eq_true hlt]
      rcases F.apart i j o o' ho ho' hlt with h | h
      · exact hanc j h
      · exfalso
        unfold slotsApart at h
        rw [hd'] at h
        rcases ht with ht | ht
        · simp [ht] at h
        · rw [ht] at h; simp at h
    · rw [decide_eq_false hlt]
      rcases F.apart j i o' o ho' ho (by omega) with h | h
      · exact hnot j h
      · exfalso
        unfold slotsApart at h
        rw [hd'] at h
        rcases ht with ht | ht
        · simp [ht] at h
        · rw [ht] at h; simp at h
  have hlook : EnvL c n ops o (envT ops val env0 i) a := by
    refine ⟨hsz, fun t ht => ?_, hg0.mono s.le⟩
    rw [← envS_cut (N := ops.size) (by omega)]
    rw [envS_congr (S := fun j => listed.getD j false) (fun j hj hdj => ?_)]
    · exact hsl t
    · by_cases hne : j = i
      · subst hne; simp [hnl']
      · exact (apart j t hj hdj (.inl ht) hne).symm
  have hnew : ∀ (c' : Cx) (z : Value), c.le c' → VR c' (val i) z → (∀ d, o.dst = some d → d < n) → ∀ t, VR c' (envS ops val env0 (fun j => (listed.setIfInBounds i true).getD j false) ops.size t) ((a.put o.dst z).tmps.getD t undef) := by
    intro c' z hle hz hdn t
    have hS : ∀ j, j ≠ i → (listed.setIfInBounds i true).getD j false = listed.getD j false := fun j hj => getD_set_ne false (Ne.symm hj)
    by_cases hd : o.dst = some t
    · have e1 : envS ops val env0 (fun j => (listed.setIfInBounds i true).getD j false) ops.size t = val i :=
        envS_new (S := fun j => listed.getD j false) (getD_new hil) hS (by rw [hdst]; exact hd) hin fun j h1 h2 h3 => by
          rw [apart j t h2 h3 (.inr hd) (by omega)]; simp; omega
      have e2 : (a.put o.dst z).tmps.getD t undef = z := by
        rw [hd, Act.put_tmps]
        have := hdn t hd
        simp [Array.getD, hsz, this]
      rw [e1, e2]; exact hz
    · have e1 : envS ops val env0 (fun j => (listed.setIfInBounds i true).getD j false) ops.size t = envS ops val env0 (fun j => listed.getD j false) ops.size t :=
        envS_congr fun j hj hdj => hS j fun e => by subst e; rw [hdst] at hdj; exact hd hdj
      have e2 : (a.put o.dst z).tmps.getD t undef = a.tmps.getD t undef := by
        cases hdo : o.dst with
        | none => rfl
        | some d =>
          rw [Act.put_tmps]
          have : d ≠ t := fun e => hd (by rw [hdo, e])
          simp only [Array.getD_eq_getD_getElem?, Array.getElem?_setIfInBounds, if_neg this]
      rw [e1, e2]; exact (hsl t).mono hle
  have hclosed : ∀ j j', (listed.setIfInBounds i true).getD j false = true → Anc ops j j' → (listed.setIfInBounds i true).getD j' false = true := by
    intro j j' hj hjj
    by_cases hji : j = i
    · subst hji; exact getD_set_true (hanc j' hjj)
    · rw [getD_set_ne false (Ne.symm hji)] at hj
      exact getD_set_true (M.closed j j' hj hjj)
  have hdn : ∀ d, o.dst = some d → d < n := fun d hd => C.slot i d hin (by rw [hdst]; exact hd)
  have hsize : (listed.setIfInBounds i true).size = ops.size := by simpa using M.size
  unfold wpOp
  rw [ho]
  show if Region.wanted o (yielded ops a.tmps) then o.wp P a w K Q ∨ (o.asks P a w ∧ LetsOut Q) else K (a.put o.dst undef) w
  have hnext : ∀ j, (listed.setIfInBounds i true).getD j false = updN (fun j => listed.getD j false) i true j := fun j => by
    by_cases hji : j = i
    · subst hji; rw [updN_same]; exact getD_new hil
    · rw [updN_ne hji]; exact getD_set_ne false (Ne.symm hji)
  cases he : eff i with
  | none =>
    have hne : ∀ j b, eff j = some b → j ≠ i := fun j b hb e => by subst e; rw [he] at hb; exact nomatch hb
    have hsame : ∀ j b, eff j = some b → (listed.setIfInBounds i true).getD j false = listed.getD j false := fun j b hb => by rw [hnext j, updN_ne (hne j b hb)]
    have hD := C.reads i o x (fun j => listed.getD j false) hin ho he hxk
      (fun e b hen hb hia => by
        have h1 := hanc e hia
        rcases Nat.lt_trichotomy b x with h | h | h
        · exact .inl h
        · exact .inr ⟨h, h1⟩
        · rw [(hx e b hen hb).2 h] at h1; exact nomatch h1)
      (fun e b hen hb hei => by
        have h1 := hnot e hei
        rcases Nat.lt_trichotomy b x with h | h | h
        · rw [(hx e b hen hb).1 h] at h1; exact nomatch h1
        · exact .inr ⟨h, h1⟩
        · exact .inl h)
    have hm : mem x (fun j => (listed.setIfInBounds i true).getD j false) = mem x (fun j => listed.getD j false) := C.ext x _ _ fun j _ hb => hsame j x hb
    refine hD hrho s.rel hlook K Q fun c' w' z s' hz => hK _ _ ⟨hsize, hclosed, ⟨x, ?_, fun j b hj hb => ?_, c', ?_, ?_, hnew c' z s'.le hz hdn⟩, ?_⟩
    · rcases hxk with h | ⟨h, e, h1, h2, h3⟩
      · exact .inl h
      · exact .inr ⟨h, e, h1, h2, by rw [hsame e x h2]; exact h3⟩
    · rw [hsame j b hb]; exact hx j b hj hb
    · rw [hm]; exact s.trans s'
    · cases hd : o.dst <;> simp [Act.put, hsz]
    · rw [put_defers]; exact M.defers
  | some y =>
    have hyk := C.lt i y hin he
    have hyx : y = x := by
      rcases Nat.lt_trichotomy y x with h | h | h
      · rw [(hx i y hin he).1 h] at hnl'; exact nomatch hnl'
      · exact h
      · rcases hxk with rfl | ⟨_, e, h1, h2, h3⟩
        · omega
        · rw [hanc e (C.chain e i x y h1 hin h2 he h)] at h3; exact nomatch h3
    subst hyx
    have hD := C.does i o y (fun j => listed.getD j false) hin ho he hnl'
    have hm : mem y (updN (fun j => listed.getD j false) i true) = mem y (fun j => (listed.setIfInBounds i true).getD j false) := C.ext y _ _ fun j _ _ => (hnext j).symm
    rw [hm] at hD
    have hfar : ∀ j b, j < ops.size → eff j = some b → y < b → (listed.setIfInBounds i true).getD j false = false := fun j b hj hb h => by
      have hji : j ≠ i := fun e => by subst e; rw [he] at hb; have := Option.some.inj hb; omega
      rw [hnext j, updN_ne hji]; exact (hx j b hj hb).2 h
    have hnear : ∀ j b, j < ops.size → eff j = some b → b < y → (listed.setIfInBounds i true).getD j false = true := fun j b hj hb h => by
      have hji : j ≠ i := fun e => by subst e; rw [he] at hb; have := Option.some.inj hb; omega
      rw [hnext j, updN_ne hji]; exact (hx j b hj hb).1 h
    refine hD hrho s.rel hlook K Q fun c' w' z s' hz => hK _ _ ⟨hsize, hclosed, ?_, ?_⟩
    · by_cases hall : ∀ e, e < ops.size → eff e = some y → (listed.setIfInBounds i true).getD e false = true
      · refine ⟨y + 1, ?_, fun j b hj hb => ⟨fun h => ?_, fun h => hfar j b hj hb (by omega)⟩, c', ?_, ?_, hnew c' z s'.le hz hdn⟩
        · by_cases hlast : y + 1 = k
          · exact .inl hlast
          · obtain ⟨e, h1, h2⟩ := C.onto (y + 1) (by omega)
            exact .inr ⟨by omega, e, h1, h2, hfar e _ h1 h2 (by omega)⟩
        · rcases Nat.lt_or_ge b y with h1 | h1
          · exact hnear j b hj hb h1
          · obtain rfl : b = y := by omega
            exact hall j hj hb
        · rw [← C.full y _ (fun j => (listed.setIfInBounds i true).getD j false) hyk hall fun j hj hb => hfar j _ hj hb (by omega)]
          exact s.trans s'
        · cases hd : o.dst <;> simp [Act.put, hsz]
      · have hex : ∃ e, e < ops.size ∧ eff e = some y ∧ (listed.setIfInBounds i true).getD e false = false := by
          refine Classical.byContradiction fun hno => hall fun e h1 h2 => ?_
          cases hle : (listed.setIfInBounds i true).getD e false with
          | true => rfl
          | false => exact absurd ⟨e, h1, h2, hle⟩ hno
        refine ⟨y, .inr ⟨hyk, hex⟩, fun j b hj hb => ⟨hnear j b hj hb, hfar j b hj hb⟩, c', s.trans s', ?_, hnew c' z s'.le hz hdn⟩
        cases hd : o.dst <;> simp [Act.put, hsz]
    · rw [put_defers]; exact M.defers

theorem all_listed (F : RegF ops) {listed : Array Bool} (hs : listed.size = ops.size) (h : Region.ready .any ops listed = []) : ∀ (j : Nat), j < ops.size → listed.getD j false = true := by
  intro j
  induction j using Nat.strongRecOn with
  | ind j ih =>
    intro hj
    cases hl : listed.getD j false with
    | true => rfl
    | false =>
      exfalso
      have : j ∈ Region.ready .any ops listed := by
        rw [mem_ready]
        refine ⟨?_, ops[j], Array.getElem?_eq_getElem hj, fun e he hb => ?_⟩
        · have : ∀ d, listed.getD j d = listed[j]'(by omega) := fun d => by simp [Array.getD, hs, hj]
          rw [this] at hl ⊢; exact hl
        · have hlt := F.edges j ops[j] e (Array.getElem?_eq_getElem hj) he hb
          exact ih e.on hlt (by omega)
      rw [h] at this
      simp at this

theorem any_ok (F : RegF ops) {k : Nat} {eff : Nat → Option Nat} {mem : Nat → (Nat → Bool) → Mem} {cur : Mem} (C : Cert P ρ ops n env0 m0 ops.size k val eff mem cur) {c0 : Cx} {w0 : World} {a0 : Act} (hρ : c0.ρ = ρ) (hg0 : GlobR c0) {Q : Exit → Act → World → Prop}
    (hQ : ∀ a' w', (∃ c, Step c0 m0 w0 c cur w' ∧ EnvR c n (envT ops val env0 ops.size) a' ∧ a'.defers = a0.defers) → Q .normal a' w') :
    ∀ (fuel : Nat) (listed : Array Bool) (a : Act) (w : World), listed.count true + fuel = ops.size → Mid P ρ ops n env0 k val eff mem c0 m0 w0 a0 listed a w → wpAny P .any ops Q fuel listed a w := by
  have fin : ∀ (listed : Array Bool) (a : Act) (w : World), Mid P ρ ops n env0 k val eff mem c0 m0 w0 a0 listed a w → Region.ready .any ops listed = [] → Q .normal a w := by
    intro listed a w M hr
    have hall := all_listed F M.size hr
    obtain ⟨x, hxk, hx, c, s, hsz, hsl⟩ := M.pos
    have : x = k := by
      rcases hxk with h | ⟨h, e, h1, h2, h3⟩
      · exact h
      · rw [hall e h1] at h3; exact nomatch h3
    subst this
    rw [C.top x _ (Nat.le_refl _)] at s
    refine hQ a w ⟨c, s, ⟨hsz, fun t => ?_, hg0.mono s.le⟩, M.defers⟩
    rw [← envS_all, ← envS_congr (S' := fun j => listed.getD j false) (S := fun _ => true) (fun j hj _ => hall j hj)]
    exact hsl t
  intro fuel
  induction fuel with
  | zero =>
    intro listed a w hc M
    have hr : Region.ready .any ops listed = [] := by
      rw [List.eq_nil_iff_forall_not_mem]
      intro j hj
      obtain ⟨hnl, o, ho, _⟩ := mem_ready.1 hj
      have hjn : j < listed.size := by rw [M.size]; exact (Array.getElem?_eq_some_iff.1 ho).1
      have : listed.count true = listed.size := by rw [M.size]; omega
      have := Array.count_eq_size.1 this listed[j] (Array.getElem_mem _)
      rw [show listed.getD j true = listed[j] by simp [Array.getD, hjn], ← this] at hnl
      simp at hnl
    exact ⟨hr, fin listed a w M hr⟩
  | succ fuel ih =>
    intro listed a w hc M
    refine ⟨fin listed a w M, fun i hi => mid_step F C hρ hg0 M hi fun a' w' M' => ih _ a' w' ?_ M'⟩
    obtain ⟨hnl, o, ho, _⟩ := mem_ready.1 hi
    have hil : i < listed.size := by rw [M.size]; exact (Array.getElem?_eq_some_iff.1 ho).1
    have hli : listed[i] = false := by
      rw [← hnl]; simp [Array.getD, hil]
    rw [Array.setIfInBounds, dif_pos hil, Array.count_set hil, hli]
    simp
    omega

/-- a region whose order is drawn -/
theorem drawn_ok (F : RegF ops) (hP : P.follows .mixedOrders = true) {cf : FuncId → List V → M V} (hcf : CallsOK P ρ cf) {c : Cx} {m m' : Mem} {w : World} {p q : Pc} {env' : Env} {a : Act} {id : Nat} (hρ : c.ρ = ρ) (hm : MemR c m w) (hp : PcR ρ p) (he : EnvR c n env0 a)
    (h : (evDr ops.toList ops P cf n 0 (fun _ => 0) env0 [] []).gives ρ m p env' m' q) (Q : Exit → Act → World → Prop) (hQ : ∀ a' w', PcR ρ q → After c m w m' n env' a a' w' → Q .normal a' w') :
    (Code.region id ops true).wp P Q a w := by
  have C0 : Cert P ρ ops n env0 m 0 0 (fun _ => undefV) (fun _ => none) (fun _ _ => m) m :=
    ⟨fun j _ _ _ h => by omega, fun j _ h => by omega, fun j _ _ _ h => by omega, fun a h => by omega, fun j _ _ _ h => by omega, fun a _ _ h => by omega, fun _ _ _ _ => rfl, fun _ _ _ => rfl, rfl, fun j _ h => by omega⟩
  have N0 : Mind P ρ ops n env0 0 0 (fun _ => undefV) (fun _ => none) (fun _ _ => m) m [] [] :=
    ⟨rfl, fun a s hs => by simp at hs, fun s r _ _ h => by simp at h, fun j _ h => by omega⟩
  obtain ⟨k, val, eff, mem, C, r2, r4⟩ := evDr_ok hcf (m0 := m) (l := ops.toList) (i := 0) (k := 0) (val := fun _ => undefV) (eff := fun _ => none) (mem := fun _ _ => m) (cur := m) rfl (by simp) (fun j b hb => by simp at hb) hp C0 N0 h
  have hw : MemR c m { w with drawn := w.drawn + 1 } := ⟨hm.nb, hm.nt, hm.blk, hm.inj, hm.tok⟩
  have s0 : Step c m w c m { w with drawn := w.drawn + 1 } := ⟨hw, Cx.le.refl c, rfl, rfl, rfl, Nat.le_refl _, fun _ _ _ => rfl, fun _ h => .inl h, fun _ h => .inl h⟩
  have hnone : ∀ j, (Array.replicate ops.size false).getD j false = false := fun j => by simp [Array.getD, Array.getElem_replicate]
  refine wp_region_any hP (any_ok F C hρ he.glob (a0 := a) (w0 := { w with drawn := w.drawn + 1 }) (fun a' w' hA => ?_) ops.size _ a _ (by simp [Array.count_replicate]) ⟨by simp, ?_, ⟨0, ?_, ?_, c, ?_, he.size, ?_⟩, rfl⟩)
  · obtain ⟨c', s, h1, h2⟩ := hA
    exact hQ a' w' r4 ⟨c', s0.trans s, by rw [r2]; exact h1, h2⟩
  · intro j j' hj
    rw [hnone j] at hj; exact nomatch hj
  · by_cases hk : k = 0
    · exact .inl hk.symm
    · obtain ⟨e, h1, h2⟩ := C.onto 0 (by omega)
      exact .inr ⟨by omega, e, h1, h2, hnone e⟩
  · intro j b hj _
    exact ⟨fun h => by omega, fun _ => hnone j⟩
  · have e : mem 0 (fun j => (Array.replicate ops.size false).getD j false) = m := by
      rw [C.ext 0 _ (fun _ => false) fun j _ _ => hnone j]; exact C.start
    rw [e]; exact Step.refl hw
  · intro t
    have e : envS ops val env0 (fun j => (Array.replicate ops.size false).getD j false) ops.size t = env0 t := by
      rw [envS_congr (S := fun j => decide (j < 0)) (fun j hj _ => by simp [Array.getD]), envS_cut (Nat.zero_le _)]
      rfl
    rw [e]; exact he.slot t
end run

end Go.Sy

/-
  What is proved here: the evaluator's code and calls are the model's.
  Conditions: none.
-/
namespace Go.Sy

/-- from a loop's round on -/
def RoundWp (P : Program) (c : Code) (Q : Exit → Act → World → Prop) (a : Act) (w : World) : Prop :=
  ∀ (b : Frame) (k : List Item) (cs : List Frame), ∃ e a' w', Q e a' w' ∧ Arrives P (lone (b.at a (.code c :: .inLoop c :: k)) cs w) b k cs e a' w'

theorem RoundWp.round {P : Program} {c : Code} {Q : Exit → Act → World → Prop} {a : Act} {w : World} (h : c.wp P (Exit.then (RoundWp P c Q) Q) a w) : RoundWp P c Q a w := by
  intro b k cs
  obtain ⟨e, a₁, w₁, hq, harr⟩ := h b (.inLoop c :: k) cs
  cases e with
  | normal =>
    obtain ⟨e₂, a₂, w₂, hq₂, harr₂⟩ := hq b k cs
    exact ⟨e₂, a₂, w₂, hq₂, .of_steps (Steps.trans harr (.one step_inLoop)) harr₂⟩
  | exit id => exact ⟨_, a₁, w₁, hq, .pass (x := .inLoop c) rfl (fun _ _ => .inl (by simp)) harr⟩
  | goto l => exact ⟨_, a₁, w₁, hq, .pass (x := .inLoop c) rfl (fun _ _ => .inl (by simp)) harr⟩
  | ret => exact ⟨_, a₁, w₁, hq, .pass (x := .inLoop c) rfl (fun _ _ => .inl (by simp)) harr⟩
  | panic ch => exact ⟨_, a₁, w₁, hq, .pass (x := .inLoop c) rfl (fun _ _ => .inl (by simp)) harr⟩
  | outgrown => exact ⟨_, a₁, w₁, hq, .pass (x := .inLoop c) rfl (fun _ _ => .inl (by simp)) harr⟩

theorem RoundWp.loop {P : Program} {c : Code} {Q : Exit → Act → World → Prop} {a : Act} {w : World} (h : RoundWp P c Q a w) : (Code.loop c).wp P Q a w := by
  intro b k cs
  obtain ⟨e, a', w', hq, harr⟩ := h b k cs
  exact ⟨e, a', w', hq, .of_steps (.one step_loop) harr⟩

def exitOf : X → Exit
  | .normal => .normal
  | .exit id => .exit id
  | .ret => .ret
  | .goto l => .goto l

/-- the code does what the evaluator says -/
def CodeOK (P : Program) (ρ : Nat → Int) (n : Nat) (code : Code) (ev : Env → M XE) : Prop :=
  ∀ ⦃c : Cx⦄ ⦃m m' : Mem⦄ ⦃w : World⦄ ⦃p q : Pc⦄ ⦃env : Env⦄ ⦃r : XE⦄ ⦃a : Act⦄, c.ρ = ρ → MemR c m w → PcR c.ρ p → EnvR c n env a → (ev env).gives c.ρ m p r m' q →
    ∀ (Q : Exit → Act → World → Prop), (∀ a' w', PcR c.ρ q → After c m w m' n r.env a a' w' → Q (exitOf r.x) a' w') → code.wp P Q a w

section ops
variable {P : Program} {ρ : Nat → Int} {n : Nat}

theorem iter0_gives {c : Cx} {m m' : Mem} {p q : Pc} {r : XE} {s : XO} (h : (iter0 r).gives c.ρ m p s m' q) : m' = m ∧ q = p ∧ s.env = r.env ∧ s.x = (match r.x with | .normal => none | x => some x) := by
  obtain ⟨x, env⟩ := r
  cases x
  · obtain ⟨rfl, rfl, rfl⟩ := M.gives_pure (show (M.pure (⟨none, env⟩ : XO)).gives c.ρ m p s m' q from h); exact ⟨rfl, rfl, rfl, rfl⟩
  · obtain ⟨rfl, rfl, rfl⟩ := M.gives_pure (show (M.pure (⟨some (.exit _), env⟩ : XO)).gives c.ρ m p s m' q from h); exact ⟨rfl, rfl, rfl, rfl⟩
  · obtain ⟨rfl, rfl, rfl⟩ := M.gives_pure (show (M.pure (⟨some .ret, env⟩ : XO)).gives c.ρ m p s m' q from h); exact ⟨rfl, rfl, rfl, rfl⟩
  · obtain ⟨rfl, rfl, rfl⟩ := M.gives_pure (show (M.pure (⟨some (.goto _), env⟩ : XO)).gives c.ρ m p s m' q from h); exact ⟨rfl, rfl, rfl, rfl⟩

/-- where a loop goes on -/
def goesTo (P : Program) (code : Code) (Q : Exit → Act → World → Prop) (x : Option X) (a : Act) (w : World) : Prop :=
  match x with
  | none => RoundWp P code Q a w
  | some x => Q (exitOf x) a w

theorem iter_ok {code : Code} {body : Env → M XE} (hb : CodeOK P ρ n code body) : ∀ (k : Nat) {c : Cx} {m m' : Mem} {w : World} {p q : Pc} {env : Env} {r : XO} {a : Act}, c.ρ = ρ → MemR c m w → PcR c.ρ p → EnvR c n env a → (iter body k env).gives c.ρ m p r m' q →
    ∀ (Q : Exit → Act → World → Prop), (∀ a' w', PcR c.ρ q → After c m w m' n r.env a a' w' → goesTo P code Q r.x a' w') → RoundWp P code Q a w
  | 0, c, m, m', w, p, q, env, r, a, hρ, hm, hp, he, h => by
    obtain ⟨r0, m1, p1, h1, h2⟩ := M.gives_bnd (show ((body env).bnd iter0).gives c.ρ m p r m' q from h)
    obtain ⟨rfl, rfl, h3, h4⟩ := iter0_gives h2
    intro Q hQ
    refine RoundWp.round (hb hρ hm hp he h1 _ fun a' w' hq hA => ?_)
    have hg := hQ a' w' hq (by rw [h3]; exact hA)
    obtain ⟨x, env'⟩ := r0
    rw [h4] at hg
    cases x <;> exact hg
  | k + 1, c, m, m', w, p, q, env, r, a, hρ, hm, hp, he, h => by
    obtain ⟨r0, m1, p1, h1, h2⟩ := M.gives_bnd (show ((iter body k env).bnd fun r => onXO r fun x e => (Option.rec (iter body k e) (fun _ => M.pure r) x : M XO)).gives c.ρ m p r m' q from h)
    intro Q hQ
    refine iter_ok hb k hρ hm hp he h1 Q fun a1 w1 hp1 hA => ?_
    obtain ⟨x, env1⟩ := r0
    cases x with
    | none =>
      obtain ⟨c1, s1, he1, hd⟩ := hA
      have hr := s1.le.ρ
      exact iter_ok hb k (hr.trans hρ) s1.rel (by rw [hr]; exact hp1) he1 (by rw [hr]; exact h2) Q fun a2 w2 hq hA2 => hQ a2 w2 (by rw [← hr]; exact hq) (hA2.trans s1 hd)
    | some x =>
      obtain ⟨rfl, rfl, rfl⟩ := M.gives_pure (show (M.pure (⟨some x, env1⟩ : XO)).gives c.ρ m1 p1 r m' q from h2)
      exact hQ a1 w1 hp1 hA

theorem condV_gives {c : Cx} {m : Mem} {p q : Pc} {v : V} {x : Value} {b : Bool} (hp : PcR c.ρ p) (hv : VR c v x) (h : (condV v).gives c.ρ m p b q) : PcR c.ρ q ∧ x = .bool b := by
  obtain ⟨e, rfl, h1⟩ := onBool_gives h
  obtain ⟨h2, h3⟩ := decR_gives hp h1
  rw [VR.bool] at hv
  exact ⟨h3, by rw [hv, h2]⟩

/-! ### labels -/

/-- in a scope, from some code of it on -/
def ScopeWp (P : Program) (body c : Code) (Q : Exit → Act → World → Prop) (a : Act) (w : World) : Prop :=
  ∀ (b : Frame) (k : List Item) (cs : List Frame), ∃ e a' w', Q e a' w' ∧ Arrives P (lone (b.at a (.code c :: .inScope body :: k)) cs w) b k cs e a' w'

/-- what a scope's code leads to -/
def scopeQ (P : Program) (body : Code) (Q : Exit → Act → World → Prop) : Exit → Act → World → Prop
  | .goto l, a, w => match findLabel body l with
    | some rest => ScopeWp P body rest Q a w
    | none => Q (.goto l) a w
  | e, a, w => Q e a w

theorem ScopeWp.of_wp {P : Program} {body c : Code} {Q : Exit → Act → World → Prop} {a : Act} {w : World} (h : c.wp P (scopeQ P body Q) a w) : ScopeWp P body c Q a w := by
  intro b k cs
  obtain ⟨e, a1, w1, hq, harr⟩ := h b (.inScope body :: k) cs
  cases e with
  | normal => exact ⟨.normal, a1, w1, hq, Steps.trans harr (.one step_inScope)⟩
  | exit id => exact ⟨.exit id, a1, w1, hq, fun k' hk => harr k' (by simp [exitTo, hk])⟩
  | goto l =>
    have hq : (match findLabel body l with | some rest => ScopeWp P body rest Q a1 w1 | none => Q (.goto l) a1 w1) := hq
    cases hf : findLabel body l with
    | some rest =>
      rw [hf] at hq
      obtain ⟨e2, a2, w2, hq2, harr2⟩ := hq b k cs
      exact ⟨e2, a2, w2, hq2, .of_steps (harr _ (by simp [gotoIn, hf])) harr2⟩
    | none =>
      rw [hf] at hq
      exact ⟨.goto l, a1, w1, hq, fun k' hk => harr k' (by simp [gotoIn, hf, hk])⟩
  | ret => exact ⟨.ret, a1, w1, hq, harr⟩
  | panic ch => exact ⟨.panic ch, a1, w1, hq, harr⟩
  | outgrown => exact ⟨.outgrown, a1, w1, hq, harr⟩

theorem ScopeWp.scope {P : Program} {body : Code} {Q : Exit → Act → World → Prop} {a : Act} {w : World} (h : ScopeWp P body body Q a w) : (Code.scope body).wp P Q a w := by
  intro b k cs
  obtain ⟨e, a', w', hq, harr⟩ := h b k cs
  exact ⟨e, a', w', hq, .of_steps (.one step_scope) harr⟩

/-- the runs from a code's labels on -/
def FrOK (P : Program) (ρ : Nat → Int) (n : Nat) (code : Code) (fr : Nat → Option (Env → M XE)) : Prop :=
  ∀ l, match fr l with
    | some f => ∃ rest, findLabel code l = some rest ∧ CodeOK P ρ n rest f
    | none => findLabel code l = none

theorem CodeOK.seq {x y : Code} {f g : Env → M XE} (hx : CodeOK P ρ n x f) (hy : CodeOK P ρ n y g) : CodeOK P ρ n (.seq x y) (seqRun f g) := by
  intro c m m' w p q env r a hρ hm hp he h Q hQ
  obtain ⟨r0, m1, p1, h1, h2⟩ := M.gives_bnd (show ((f env).bnd fun r => onXE r fun z e => (X.rec (g e) (fun _ => M.pure r) (M.pure r) (fun _ => M.pure r) z : M XE)).gives c.ρ m p r m' q from h)
  refine wp_seq (hx hρ hm hp he h1 _ fun a1 w1 hp1 hA => ?_)
  obtain ⟨z, env1⟩ := r0
  cases z with
  | normal =>
    obtain ⟨c1, s1, he1, hd⟩ := hA
    have hr := s1.le.ρ
    exact hy (hr.trans hρ) s1.rel (by rw [hr]; exact hp1) he1 (by rw [hr]; exact h2) Q fun a2 w2 hq hA2 => hQ a2 w2 (by rw [← hr]; exact hq) (hA2.trans s1 hd)
  | exit id =>
    obtain ⟨rfl, rfl, rfl⟩ := M.gives_pure (show (M.pure (⟨.exit id, env1⟩ : XE)).gives c.ρ m1 p1 r m' q from h2)
    exact hQ a1 w1 hp1 hA
  | ret =>
    obtain ⟨rfl, rfl, rfl⟩ := M.gives_pure (show (M.pure (⟨.ret, env1⟩ : XE)).gives c.ρ m1 p1 r m' q from h2)
    exact hQ a1 w1 hp1 hA
  | goto l =>
    obtain ⟨rfl, rfl, rfl⟩ := M.gives_pure (show (M.pure (⟨.goto l, env1⟩ : XE)).gives c.ρ m1 p1 r m' q from h2)
    exact hQ a1 w1 hp1 hA

theorem scopeX_ok {body : Code} {fr : Nat → Option (Env → M XE)} (hfr : FrOK P ρ n body fr) : ∀ (k : Nat) {c : Cx} {m m1 m' : Mem} {w w1 : World} {p1 q : Pc} {r0 r : XE} {a a1 : Act}, c.ρ = ρ → PcR c.ρ p1 → After c m w m1 n r0.env a a1 w1 → (scopeX fr k r0).gives c.ρ m1 p1 r m' q →
    ∀ (Q : Exit → Act → World → Prop), (∀ a' w', PcR c.ρ q → After c m w m' n r.env a a' w' → Q (exitOf r.x) a' w') → scopeQ P body Q (exitOf r0.x) a1 w1
  | 0, c, m, m1, m', w, w1, p1, q, r0, r, a, a1, hρ, hp1, hA, h, Q, hQ => (M.gives_fail (s := "jumps") h).elim
  | k + 1, c, m, m1, m', w, w1, p1, q, r0, r, a, a1, hρ, hp1, hA, h, Q, hQ => by
    obtain ⟨z, env1⟩ := r0
    have plain : (M.pure (⟨z, env1⟩ : XE)).gives c.ρ m1 p1 r m' q → Q (exitOf z) a1 w1 := fun h => by
      obtain ⟨rfl, rfl, rfl⟩ := M.gives_pure h
      exact hQ a1 w1 hp1 hA
    cases z with
    | normal => exact plain h
    | exit id => exact plain h
    | ret => exact plain h
    | goto l =>
      have h : (Option.rec (M.pure ⟨.goto l, env1⟩) (fun f => (f env1).bnd (scopeX fr k)) (fr l) : M XE).gives c.ρ m1 p1 r m' q := h
      have hf := hfr l
      show (match findLabel body l with | some rest => ScopeWp P body rest Q a1 w1 | none => Q (.goto l) a1 w1)
      cases he : fr l with
      | none =>
        rw [he] at h hf
        have hf : findLabel body l = none := hf
        rw [hf]
        exact plain h
      | some f =>
        rw [he] at h hf
        obtain ⟨rest, hl, hok⟩ := hf
        rw [hl]
        obtain ⟨r1, m2, p2, h1, h2⟩ := M.gives_bnd (show ((f env1).bnd (scopeX fr k)).gives c.ρ m1 p1 r m' q from h)
        obtain ⟨c1, s1, he1, hd⟩ := hA
        have hr := s1.le.ρ
        refine ScopeWp.of_wp (hok (hr.trans hρ) s1.rel (by rw [hr]; exact hp1) he1 (by rw [hr]; exact h1) _ fun a2 w2 hq hA2 => ?_)
        exact scopeX_ok hfr k hρ (by rw [← hr]; exact hq) (hA2.trans s1 hd) h2 Q hQ

theorem FrOK.none {code : Code} (h : ∀ l, findLabel code l = .none) : FrOK P ρ n code (fun _ => .none) := fun l => h l

theorem evC_ok (hM : P.follows .mixedOrders = true) {cf : FuncId → List V → M V} (hcf : CallsOK P ρ cf) (it : Nat) : ∀ (code : Code), codeRegs code = true → CodeOK P ρ n code (evC code P cf it n).run ∧ FrOK P ρ n code (evC code P cf it n).fr
  | .skip, _ => by
    refine ⟨?_, FrOK.none fun _ => rfl⟩
    intro c m m' w p q env r a hρ hm hp he h Q hQ
    obtain ⟨rfl, rfl, rfl⟩ := M.gives_pure (show (M.pure (⟨.normal, env⟩ : XE)).gives c.ρ m p r m' q from h)
    exact wp_skip (hQ a w hp ⟨c, Step.refl hm, he, rfl⟩)
  | .label k, _ => by
    refine ⟨?_, fun l => ?_⟩
    · intro c m m' w p q env r a hρ hm hp he h Q hQ
      obtain ⟨rfl, rfl, rfl⟩ := M.gives_pure (show (M.pure (⟨.normal, env⟩ : XE)).gives c.ρ m p r m' q from h)
      exact wp_label (hQ a w hp ⟨c, Step.refl hm, he, rfl⟩)
    · show match selB (Nat.beq k l) (some fun env => M.pure (⟨.normal, env⟩ : XE)) Option.none with | some f => _ | Option.none => _
      cases hb : Nat.beq k l with
      | true =>
        rw [beq_iff] at hb
        subst hb
        refine ⟨.skip, by simp [findLabel], ?_⟩
        intro c m m' w p q env r a hρ hm hp he h Q hQ
        obtain ⟨rfl, rfl, rfl⟩ := M.gives_pure (show (M.pure (⟨.normal, env⟩ : XE)).gives c.ρ m p r m' q from h)
        exact wp_skip (hQ a w hp ⟨c, Step.refl hm, he, rfl⟩)
      | false =>
        rw [beq_false] at hb
        show findLabel (.label k) l = Option.none
        simp [findLabel, hb]
  | .exit id, _ => by
    refine ⟨?_, FrOK.none fun _ => rfl⟩
    intro c m m' w p q env r a hρ hm hp he h Q hQ
    obtain ⟨rfl, rfl, rfl⟩ := M.gives_pure (show (M.pure (⟨.exit id, env⟩ : XE)).gives c.ρ m p r m' q from h)
    exact wp_exit (hQ a w hp ⟨c, Step.refl hm, he, rfl⟩)
  | .goto l, _ => by
    refine ⟨?_, FrOK.none fun _ => rfl⟩
    intro c m m' w p q env r a hρ hm hp he h Q hQ
    obtain ⟨rfl, rfl, rfl⟩ := M.gives_pure (show (M.pure (⟨.goto l, env⟩ : XE)).gives c.ρ m p r m' q from h)
    exact wp_goto (hQ a w hp ⟨c, Step.refl hm, he, rfl⟩)
  | .ret, _ => by
    refine ⟨?_, FrOK.none fun _ => rfl⟩
    intro c m m' w p q env r a hρ hm hp he h Q hQ
    obtain ⟨rfl, rfl, rfl⟩ := M.gives_pure (show (M.pure (⟨.ret, env⟩ : XE)).gives c.ρ m p r m' q from h)
    exact wp_ret (hQ a w hp ⟨c, Step.refl hm, he, rfl⟩)
  | .seq x y, hR => by
    obtain ⟨hR1, hR2⟩ := Bool.and_eq_true_iff.1 (show (codeRegs x && codeRegs y) = true from hR)
    obtain ⟨hx, fx⟩ := evC_ok hM hcf it x hR1
    obtain ⟨hy, fy⟩ := evC_ok hM hcf it y hR2
    refine ⟨hx.seq hy, fun l => ?_⟩
    have gx := fx l
    have gy := fy l
    show match (Option.rec ((evC y P cf it n).fr l) (fun f => some (seqRun f (evC y P cf it n).run)) ((evC x P cf it n).fr l) : Option (Env → M XE)) with | some f => _ | Option.none => _
    cases hf : (evC x P cf it n).fr l with
    | some f =>
      rw [hf] at gx
      obtain ⟨rest, h1, h2⟩ := gx
      exact ⟨.seq rest y, by simp [findLabel, h1], h2.seq hy⟩
    | none =>
      rw [hf] at gx
      have gx : findLabel x l = Option.none := gx
      show match (evC y P cf it n).fr l with | some f => _ | Option.none => _
      cases hg : (evC y P cf it n).fr l with
      | some f =>
        rw [hg] at gy
        obtain ⟨rest, h1, h2⟩ := gy
        exact ⟨rest, by simp [findLabel, gx, h1], h2⟩
      | none =>
        rw [hg] at gy
        have gy : findLabel y l = Option.none := gy
        show findLabel (.seq x y) l = Option.none
        simp [findLabel, gx, gy]
  | .cond k x y, hR => by
    obtain ⟨hR1, hR2⟩ := Bool.and_eq_true_iff.1 (show (codeRegs x && codeRegs y) = true from hR)
    have hx := (evC_ok hM hcf it x hR1).1
    have hy := (evC_ok hM hcf it y hR2).1
    refine ⟨?_, FrOK.none fun _ => rfl⟩
    intro c m m' w p q env r a hρ hm hp he h Q hQ
    obtain ⟨b, p1, h1, h2⟩ := R.gives_thn (show ((condV (opd k env)).thn fun b => (Bool.rec ((evC y P cf it n).run env) ((evC x P cf it n).run env) b : M XE)).gives c.ρ m p r m' q from h)
    obtain ⟨h3, h4⟩ := condV_gives hp (opd_ok he k) h1
    cases b with
    | false => exact wp_cond_false h4 (hy hρ hm h3 he h2 Q hQ)
    | true => exact wp_cond_true h4 (hx hρ hm h3 he h2 Q hQ)
  | .block id x, hR => by
    have hx := (evC_ok hM hcf it x hR).1
    refine ⟨?_, FrOK.none fun _ => rfl⟩
    intro c m m' w p q env r a hρ hm hp he h Q hQ
    obtain ⟨r0, m1, p1, h1, h2⟩ := M.gives_bnd (show (((evC x P cf it n).run env).bnd (blockX id)).gives c.ρ m p r m' q from h)
    refine wp_block (hx hρ hm hp he h1 _ fun a1 w1 hp1 hA => ?_)
    obtain ⟨z, env1⟩ := r0
    cases z with
    | normal =>
      obtain ⟨rfl, rfl, rfl⟩ := M.gives_pure (show (M.pure (⟨.normal, env1⟩ : XE)).gives c.ρ m1 p1 r m' q from h2)
      exact hQ a1 w1 hp1 hA
    | ret =>
      obtain ⟨rfl, rfl, rfl⟩ := M.gives_pure (show (M.pure (⟨.ret, env1⟩ : XE)).gives c.ρ m1 p1 r m' q from h2)
      exact hQ a1 w1 hp1 hA
    | goto l =>
      obtain ⟨rfl, rfl, rfl⟩ := M.gives_pure (show (M.pure (⟨.goto l, env1⟩ : XE)).gives c.ρ m1 p1 r m' q from h2)
      exact hQ a1 w1 hp1 hA
    | exit i =>
      obtain ⟨rfl, rfl, rfl⟩ := M.gives_pure (show (M.pure (⟨selB (Nat.beq i id) .normal (.exit i), env1⟩ : XE)).gives c.ρ m1 p1 r m' q from h2)
      have hq := hQ a1 w1 hp1 hA
      show Exit.inBlock id Q (.exit i) a1 w1
      cases hb : Nat.beq i id with
      | true =>
        rw [hb] at hq
        rw [beq_iff] at hb; subst hb
        simp only [Exit.inBlock, if_true]; exact hq
      | false =>
        rw [hb] at hq
        rw [beq_false] at hb
        simp only [Exit.inBlock, if_neg hb]; exact hq
  | .loop x, hR => by
    have hx := (evC_ok hM hcf it x hR).1
    refine ⟨?_, FrOK.none fun _ => rfl⟩
    intro c m m' w p q env r a hρ hm hp he h Q hQ
    obtain ⟨r0, m1, p1, h1, h2⟩ := M.gives_bnd (show ((iter (evC x P cf it n).run it env).bnd loopX).gives c.ρ m p r m' q from h)
    refine RoundWp.loop (iter_ok hx it hρ hm hp he h1 Q fun a1 w1 hp1 hA => ?_)
    obtain ⟨z, env1⟩ := r0
    cases z with
    | none => exact (M.gives_fail (s := "loop more rounds") h2).elim
    | some z =>
      obtain ⟨rfl, rfl, rfl⟩ := M.gives_pure (show (M.pure (⟨z, env1⟩ : XE)).gives c.ρ m1 p1 r m' q from h2)
      exact hQ a1 w1 hp1 hA
  | .scope x, hR => by
    obtain ⟨hx, fx⟩ := evC_ok hM hcf it x hR
    refine ⟨?_, FrOK.none fun _ => rfl⟩
    intro c m m' w p q env r a hρ hm hp he h Q hQ
    obtain ⟨r0, m1, p1, h1, h2⟩ := M.gives_bnd (show (((evC x P cf it n).run env).bnd (scopeX (evC x P cf it n).fr 6)).gives c.ρ m p r m' q from h)
    exact ScopeWp.scope (ScopeWp.of_wp (hx hρ hm hp he h1 _ fun a1 w1 hp1 hA => scopeX_ok fx 6 hρ hp1 hA h2 Q hQ))
  | .region id ops d, hR => by
    refine ⟨?_, FrOK.none fun _ => rfl⟩
    intro c m m' w p q env r a hρ hm hp he h Q hQ
    have h : (selB d (evDrawn ops P cf n env) (evReg ops P cf n env)).gives c.ρ m p r m' q := h
    cases d with
    | true =>
      obtain ⟨env1, m1, p1, h1, h2⟩ := M.gives_bnd (show ((evDr ops.toList ops P cf n 0 (fun _ => 0) env [] []).bnd fun env => M.pure (⟨.normal, env⟩ : XE)).gives c.ρ m p r m' q from h)
      obtain ⟨rfl, rfl, rfl⟩ := M.gives_pure h2
      have hR : regOK ops = true := by simpa [codeRegs] using hR
      refine drawn_ok (regF_of hR) hM hcf hρ hm (by rw [← hρ]; exact hp) he (by rw [← hρ]; exact h1) Q fun a' w' hq hA => hQ a' w' (by rw [hρ]; exact hq) hA
    | false =>
      obtain ⟨env1, m1, p1, h1, h2⟩ := M.gives_bnd (show ((evSeq ops.toList ops P cf n env).bnd fun env => M.pure (⟨.normal, env⟩ : XE)).gives c.ρ m p r m' q from h)
      obtain ⟨rfl, rfl, rfl⟩ := M.gives_pure h2
      exact wp_region_list (evSeq_ok hcf hρ hm hp he h1 Q hQ)
  | .rangeFunc _ _ _ _, _ => ⟨by intro c m m' w p q env r a hρ hm hp he h; exact (M.gives_fail (s := "code") h).elim, FrOK.none fun _ => rfl⟩
  | .refuse _, _ => ⟨by intro c m m' w p q env r a hρ hm hp he h; exact (M.gives_fail (s := "code") h).elim, FrOK.none fun _ => rfl⟩

theorem evCode_ok (hM : P.follows .mixedOrders = true) {cf : FuncId → List V → M V} (hcf : CallsOK P ρ cf) (it : Nat) (code : Code) (hR : codeRegs code = true) : CodeOK P ρ n code (evCode code P cf it n) := (evC_ok hM hcf it code hR).1
end ops

end Go.Sy

/-
  What is proved here: the evaluator's calls are the model's.
  Conditions: none of the program's functions bears a certain name of Go's runtime.
-/
namespace Go.Sy

/-- what the evaluator asks of a function -/
noncomputable def goodFn (fn : Func) : Bool := !(fn.name == "runtime.NumGoroutine") && (match fn.body with | none => true | some c => codeRegs c)

/-- what the evaluator asks of a program: no function is the one that the model answers itself; the slots of each region are in order; Go's own orders -/
structure Plain (P : Program) : Prop where
  fns : ∀ (f : FuncId) (fn : Func), P.funcs[f]? = some fn → goodFn fn = true
  mixed : P.follows .mixedOrders = true

theorem Plain.of {P : Program} (h : P.funcs.toList.all goodFn = true) (hm : P.follows .mixedOrders = true) : Plain P :=
  ⟨fun f fn hf => List.all_eq_true.1 h fn (by have := Array.mem_of_getElem? hf; simpa using this), hm⟩

section ops
variable {P : Program} {ρ : Nat → Int}

/-- a result -/
def res1S (tmps : Array Value) : ResultVar → Sem Value
  | .tmp t => pure (tmps.getD t undef)
  | .cell a t => do loadVar t (← asAddr (tmps.getD a undef))

theorem res1_ok {c : Cx} {m : Mem} {w : World} {p q : Pc} {n : Nat} {env : Env} {a : Act} (hm : MemR c m w) (hp : PcR c.ρ p) (he : EnvR c n env a) {r : ResultVar} {v : V} (h : (res1 r P env).gives c.ρ m p v q) :
    q = p ∧ ∃ z, (res1S a.tmps r).run P w = .ok z w ∧ VR c v z := by
  cases r with
  | tmp t =>
    obtain ⟨rfl, rfl⟩ := R.gives_pure (show (R.pure (env t)).gives c.ρ m p v q from h)
    exact ⟨rfl, _, rfl, he.slot t⟩
  | cell s t =>
    obtain ⟨rfl, i, o, hx, y, h1, h2⟩ := loadPtr_ok hm hp (he.slot s) (show (loadPtr P t (env s)).gives c.ρ m p v q from h)
    refine ⟨rfl, y, ?_, h2⟩
    simp only [res1S, hx, asAddr, Sem.run_bind, Sem.run_pure, Result.andThen_ok, h1]

theorem resV_ok {c : Cx} {m : Mem} {w : World} {n : Nat} {env : Env} {a : Act} (hm : MemR c m w) (he : EnvR c n env a) : ∀ {rs : List ResultVar} {p q : Pc} {l : List V}, PcR c.ρ p → (resV rs P env).gives c.ρ m p l q →
    q = p ∧ ∃ zs, (rs.mapM (res1S a.tmps)).run P w = .ok zs w ∧ VRs c l zs
  | [], p, q, l, _, h => by
    obtain ⟨rfl, rfl⟩ := R.gives_pure (show (R.pure []).gives c.ρ m p l q from h)
    exact ⟨rfl, [], rfl, VRs.nil⟩
  | r :: rs, p, q, l, hp, h => by
    obtain ⟨v, p1, h1, h2⟩ := R.gives_bnd (show ((res1 r P env).bnd fun v => (resV rs P env).bnd fun r => R.pure (v :: r)).gives c.ρ m p l q from h)
    obtain ⟨rfl, z, h3, h4⟩ := res1_ok hm hp he h1
    obtain ⟨l', p2, h5, h6⟩ := R.gives_bnd h2
    obtain ⟨rfl, zs, h7, h8⟩ := resV_ok hm he hp h5
    obtain ⟨rfl, rfl⟩ := R.gives_pure h6
    refine ⟨rfl, z :: zs, ?_, VRs.cons h4 h8⟩
    rw [List.mapM_cons, Sem.run_bind, h3, Result.andThen_ok, Sem.run_bind, h7, Result.andThen_ok, Sem.run_pure]

theorem results_ok {c : Cx} {m : Mem} {w : World} {n : Nat} {env : Env} {a : Act} (hm : MemR c m w) (he : EnvR c n env a) {fn : Func} {p q : Pc} {l : List V} (hp : PcR c.ρ p) (h : (resV fn.results.toList P env).gives c.ρ m p l q) :
    q = p ∧ ∃ z, (results fn a.tmps).run P w = .ok z w ∧ VR c (oneV l) z := by
  obtain ⟨rfl, zs, h1, h2⟩ := resV_ok hm he hp h
  have hF : results fn a.tmps = (do let vs ← Array.mapM (res1S a.tmps) fn.results; pure (if h : vs.size = 1 then vs[0] else .tuple vs)) := by
    unfold results
    congr 1
  refine ⟨rfl, (if h : zs.toArray.size = 1 then zs.toArray[0] else .tuple zs.toArray), ?_, ?_⟩
  · rw [hF, Array.mapM_eq_mapM_toList, Sem.run_bind, Sem.run_map, h1]
    rfl
  · cases l with
    | nil =>
      rw [VRs.nil_iff] at h2; subst h2
      exact VR.tuple.2 ⟨#[], rfl, VRs.nil⟩
    | cons v l =>
      obtain ⟨x, ys, rfl, h3, h4⟩ := VRs.cons_iff.1 h2
      cases l with
      | nil => rw [VRs.nil_iff] at h4; subst h4; exact h3
      | cons u l =>
        obtain ⟨y, zs, rfl, h5, h6⟩ := VRs.cons_iff.1 h4
        rw [dif_neg (by simp)]
        exact VR.tuple.2 ⟨_, rfl, VRs.cons h3 (VRs.cons h5 h6)⟩

theorem setArgs_ok {c : Cx} : ∀ {l : List V} {xs : List Value} (i : Nat) {env : Env} {old : List Value}, old.length = i → VRs c l xs → (∀ j, VR c (env j) (old[j]?.getD undef)) → ∀ j, VR c (setArgs l i env j) ((old ++ xs)[j]?.getD undef)
  | [], xs, i, env, old, _, h, he, j => by
    rw [VRs.nil_iff] at h; subst h
    rw [List.append_nil]; exact he j
  | v :: l, xs, i, env, old, ho, h, he, j => by
    obtain ⟨x, ys, rfl, h1, h2⟩ := VRs.cons_iff.1 h
    have e : old ++ x :: ys = (old ++ [x]) ++ ys := by simp
    rw [e]
    refine setArgs_ok (i + 1) (by simp [ho]) h2 (fun j => ?_) j
    show VR c (Bool.rec (env j) v (Nat.beq j i)) _
    cases hj : Nat.beq j i with
    | true =>
      rw [beq_iff] at hj; subst hj
      have : (old ++ [x])[j]? = some x := by rw [List.getElem?_append_right (by omega)]; simp [ho]
      rw [this]; exact h1
    | false =>
      rw [beq_false] at hj
      have : (old ++ [x])[j]?.getD undef = old[j]?.getD undef := by
        rcases Nat.lt_or_ge j i with hlt | hge
        · rw [List.getElem?_append_left (by omega)]
        · rw [List.getElem?_eq_none (by simp; omega), List.getElem?_eq_none (by omega)]
      rw [this]; exact he j

theorem env_ok {c : Cx} (hg : GlobR c) {l : List V} {args : Array Value} (k : Nat) (h : VRs c l args.toList) :
    EnvR c (slots k l) (setArgs l 0 env0) { tmps := args ++ Array.replicate (k - args.size) undef, defers := [] } := by
  have hl : l.length = args.size := by have := h.length; simpa using this.symm
  refine ⟨?_, fun j => ?_, hg⟩
  · rw [Array.size_append, Array.size_replicate]
    show _ = (Bool.rec (lenL l) k (Nat.ble (lenL l) k) : Nat)
    rw [lenL_eq, hl]
    cases hb : Nat.ble args.size k with
    | true => rw [ble_iff] at hb; show _ = k; omega
    | false =>
      have : ¬ args.size ≤ k := fun e => by rw [(ble_iff _ _).2 e] at hb; simp at hb
      show _ = args.size; omega
  · have h1 := setArgs_ok (c := c) (l := l) (xs := args.toList) 0 (env := env0) (old := []) rfl h (fun j => by rw [List.getElem?_nil]; exact VR.undef) j
    have : (args ++ Array.replicate (k - args.size) undef).getD j undef = ([] ++ args.toList)[j]?.getD undef := by
      rw [Array.getD_eq_getD_getElem?, Array.getElem?_append, List.nil_append, Array.getElem?_toList]
      by_cases hj : j < args.size
      · rw [if_pos hj]
      · rw [if_neg hj, Array.getElem?_replicate, Array.getElem?_eq_none (by omega)]
        split <;> rfl
    rw [this]; exact h1

/-- the evaluator's run of f is the model's -/
def FnOK (P : Program) (ρ : Nat → Int) (f : FuncId) (ev : List V → M V) : Prop :=
  ∀ (l : List V) (c : Cx) (m m' : Mem) (w : World) (p q : Pc) (v : V) (args : Array Value), c.ρ = ρ → MemR c m w → PcR c.ρ p → GlobR c → VRs c l args.toList → (ev l).gives c.ρ m p v m' q → CallOK P f args c m w m' v q

/-- what is known is so -/
def KwOK (P : Program) (ρ : Nat → Int) (kw : Kw) : Prop :=
  ∀ (f : FuncId) (tr : (List V → M V) → List V → M V), kw f = some tr → ∀ ev, FnOK P ρ f ev → FnOK P ρ f (tr ev)

theorem kw0_ok : KwOK P ρ kw0 := fun f s h => by simp [kw0] at h

theorem evOne_ok (hP : Plain P) (it : Nat) {cf : FuncId → List V → M V} (hcf : CallsOK P ρ cf) (f : FuncId) : FnOK P ρ f (evOne P cf it f) := by
    intro l c m m' w p q v args hρ hm hp hg hl h
    have h : (Option.rec (M.fail "no such function") (fun fn => evBody P cf it fn l) P.funcs[f]? : M V).gives c.ρ m p v m' q := h
    cases hf : P.funcs[f]? with
    | none => rw [hf] at h; exact (M.gives_fail (s := "no such function") h).elim
    | some fn =>
      rw [hf] at h
      have h : (Option.rec (M.fail fn.name) (fun co => (evCode co P cf it (slots fn.ntmps l) (setArgs l 0 env0)).bnd (endX P fn)) fn.body : M V).gives c.ρ m p v m' q := h
      cases hb : fn.body with
      | none => rw [hb] at h; exact (M.gives_fail (s := fn.name) h).elim
      | some co =>
        rw [hb] at h
        obtain ⟨r, m1, p1, h1, h2⟩ := M.gives_bnd (show ((evCode co P cf it (slots fn.ntmps l) (setArgs l 0 env0)).bnd (endX P fn)).gives c.ρ m p v m' q from h)
        refine ⟨⟨fn, hf, by rw [hb]; rfl, by have := hP.fns f fn hf; simp [goodFn] at this; simpa using this.1⟩, calls_of_wp hf hb ?_⟩
        have hR : codeRegs co = true := by have := hP.fns f fn hf; simp [goodFn, hb] at this; exact this.2
        refine evCode_ok hP.mixed hcf it co hR hρ hm hp (env_ok hg fn.ntmps hl) h1 _ fun a w' hq hA => ?_
        obtain ⟨c1, s1, he1, hd⟩ := hA
        obtain ⟨x, env1⟩ := r
        have hr := s1.le.ρ
        have key : (∀ id, x ≠ .exit id ∧ x ≠ .goto id) → ((resV fn.results.toList P env1).thn fun l => M.pure (oneV l)).gives c.ρ m1 p1 v m' q →
            a.defers = [] ∧ ∃ y, (results fn a.tmps).run P w' = .ok y w' ∧ ∃ c' z, Ending.returned y = .returned z ∧ Step c m w c' m' w' ∧ VR c' v z ∧ PcR c.ρ q := by
          intro _ h3
          obtain ⟨rs, p2, h4, h5⟩ := R.gives_thn h3
          rw [← hr] at h4
          obtain ⟨rfl, z, h6, h7⟩ := results_ok s1.rel he1 (by rw [hr]; exact hq) h4
          obtain ⟨rfl, rfl, rfl⟩ := M.gives_pure h5
          exact ⟨hd, z, h6, c1, z, rfl, s1, h7, hq⟩
        cases x with
        | exit id => exact (M.gives_fail (s := "an exit") h2).elim
        | goto l => exact (M.gives_fail (s := "a goto") h2).elim
        | normal => exact key (fun _ => ⟨nofun, nofun⟩) h2
        | ret => exact key (fun _ => ⟨nofun, nofun⟩) h2

theorem evFn_ok (hP : Plain P) {kw : Kw} (hkw : KwOK P ρ kw) (it : Nat) : ∀ d, CallsOK P ρ (evFn P kw it d)
  | 0 => by
    intro f l c m m' w p q v args _ _ _ _ _ h
    exact (M.gives_fail (s := "calls too deep") h).elim
  | d + 1 => by
    have hone := fun f => evOne_ok hP it (evFn_ok hP hkw it d) f
    intro f l c m m' w p q v args hρ hm hp hg hl h
    have h : (Option.rec (evOne P (evFn P kw it d) it f) (fun tr => tr (evOne P (evFn P kw it d) it f)) (kw f) l : M V).gives c.ρ m p v m' q := h
    cases hk : kw f with
    | none => rw [hk] at h; exact hone f l c m m' w p q v args hρ hm hp hg hl h
    | some tr => rw [hk] at h; exact hkw f tr hk _ (hone f) l c m m' w p q v args hρ hm hp hg hl h
end ops
end Go.Sy

/-
  What is proved here: from a run of the evaluator to the model's call: it returns true, and what was there before is as it was.
  Conditions: none.
-/
namespace Go.Sy
open Go.RowKit (Below)

/-- every leaf is the value true -/
noncomputable def allTrue (t : T (Rs V)) : Bool := (T.rec (motive := fun _ => Bool) (fun r => onBool r.v (fun b => (B.rec (motive := fun _ => Bool) (fun v => v) (fun _ _ => false) (fun _ _ => false) (fun _ _ => false) (b))) false) (fun _ _ _ ix iy => andB ix iy) (fun _ => false) (t))

theorem allTrue_out (ρ : Nat → Int) : ∀ {t : T (Rs V)}, allTrue t = true → ∃ m q, t.out ρ = some ⟨.bool (.lit true), m, q⟩
  | .ret ⟨v, m, q⟩, h => by
    have h : onBool v (fun b => (B.rec (fun v => v) (fun _ _ => false) (fun _ _ => false) (fun _ _ => false) b : Bool)) false = true := h
    rcases onBool_cases v (fun b => (B.rec (fun v => v) (fun _ _ => false) (fun _ _ => false) (fun _ _ => false) b : Bool)) false with ⟨b, rfl, he⟩ | he <;> rw [he] at h
    · cases b with
      | lit u =>
        have h : u = true := h
        subst h; exact ⟨m, q, rfl⟩
      | _ => exact absurd (show false = true from h) (by simp)
    · simp at h
  | .br c x y, h => by
    obtain ⟨h1, h2⟩ := andB_ok (show andB (allTrue x) (allTrue y) = true from h)
    obtain ⟨m, q, e1⟩ := allTrue_out ρ h1
    obtain ⟨m', q', e2⟩ := allTrue_out ρ h2
    simp only [T.out]
    cases c.den ρ with
    | true => exact ⟨m, q, by simpa using e1⟩
    | false => exact ⟨m', q', by simpa using e2⟩
  | .fail s, h => absurd (show false = true from h) (by simp)

/-- the memory at the start: the variables that are laid -/
noncomputable def layG (l : List (Nat × List V)) : Tr Blk := (List.rec (motive := fun _ => Tr Blk) (.nil) (fun g _ ih => ih.set g.1 (.cells g.2 false false none)) (l))

noncomputable def mem0 (g : List (Nat × List V)) : Mem := ⟨layG g, 4096, .nil, 0⟩

def pc0 : Pc := ⟨[], []⟩

/-- the abstract names at the start -/
def cx0 (ρ : Nat → Int) : Cx := ⟨fun i => (i, 0), fun _ => 0, ρ, 4096, 0⟩

theorem layG_get {i : Nat} {b : Blk} : ∀ {g : List (Nat × List V)}, (layG g).get i = some b → ∃ l, (i, l) ∈ g ∧ b = .cells l false false none
  | [], h => by simp [layG, Tr.get] at h
  | x :: g, h => by
    have h : ((layG g).set x.1 (.cells x.2 false false none)).get i = some b := h
    rw [Tr.get_set] at h
    split at h
    · rename_i e
      simp at h
      exact ⟨x.2, by rw [e]; exact .head _, h.symm⟩
    · obtain ⟨l, h1, h2⟩ := layG_get h
      exact ⟨l, .tail _ h1, h2⟩

theorem mem0_ok {ρ : Nat → Int} {g : List (Nat × List V)} {w : World} (h : ∀ x ∈ g, x.1 < 4096 ∧ BlkR (cx0 ρ) w (x.1, 0) (.cells x.2 false false none)) : MemR (cx0 ρ) (mem0 g) w := by
  refine ⟨rfl, rfl, ?_, ?_, ?_⟩
  · intro i b hb
    obtain ⟨l, h1, rfl⟩ := layG_get (show (layG g).get i = some b from hb)
    exact h _ h1
  · intro i j b b' hb hb' hij hap _ _
    obtain ⟨l, h1, rfl⟩ := layG_get (show (layG g).get i = some b from hb)
    obtain ⟨l', h2, rfl⟩ := layG_get (show (layG g).get j = some b' from hb')
    exact absurd hap (by simp [Blk.apt, Blk.wrB, Blk.plB])
  · intro t n h
    simp [mem0, Tr.get] at h

theorem pc0_ok {ρ : Nat → Int} : PcR ρ pc0 := ⟨fun c hc => by simp [pc0] at hc, fun i lo hi h => by simp [pc0] at h⟩

theorem glob0 {ρ : Nat → Int} : GlobR (cx0 ρ) := ⟨Nat.le_refl _, fun _ _ => rfl⟩

theorem Step.below {c c' : Cx} {m m' : Mem} {w w' : World} (s : Step c m w c' m' w') (h : ∀ b, ¬ Wr c m b) : Below w.heap.size w w' :=
  ⟨s.os, s.tape, s.output, s.size, fun k hk => s.frame k hk (h k)⟩

theorem mem0_wr {ρ : Nat → Int} {g : List (Nat × List V)} : ∀ b, ¬ Wr (cx0 ρ) (mem0 g) b := by
  rintro b ⟨i, blk, h1, h2, _⟩
  obtain ⟨l, _, rfl⟩ := layG_get (show (layG g).get i = some blk from h1)
  simp [Blk.wrB] at h2

/-- a closed call that returns true -/
theorem closed_ok {P : Program} (hP : Plain P) {kw : Kw} (hkw : KwOK P (fun _ => 0) kw) {it d : Nat} {f : FuncId} {g : List (Nat × List V)} (h : allTrue (evFn P kw it d f [] (mem0 g) pc0) = true) (w : World)
    (hw : ∀ x ∈ g, x.1 < 4096 ∧ BlkR (cx0 fun _ => 0) w (x.1, 0) (.cells x.2 false false none)) :
    Calls P f #[] w fun e w' => e = .returned (.bool true) ∧ Below w.heap.size w w' := by
  obtain ⟨m, q, he⟩ := allTrue_out (fun _ => 0) h
  refine (evFn_ok hP hkw it d f [] (cx0 fun _ => 0) _ m w pc0 q _ #[] rfl (mem0_ok hw) pc0_ok glob0 VRs.nil he).2.mono fun e w' hR => ?_
  obtain ⟨c', z, rfl, s, hz, _⟩ := hR
  rw [VR.bool] at hz
  subst hz
  exact ⟨rfl, s.below mem0_wr⟩

/-! ### a closed call that is known -/

noncomputable def eqLV (a b : List V) : Bool := eqVV (.agg a) (.agg b)

/-- the variable is laid so -/
noncomputable def laidAt (m : Mem) (g : List (Nat × List V)) : Bool := allL (fun x => andB (Nat.blt x.1 4096) (onCells (m.tr.get x.1) (fun l _ _ _ => eqLV l x.2) false)) g

/-- the call returns true, where the variables are laid so -/
noncomputable def knTrue (g : List (Nat × List V)) (l : List V) : M V := (List.rec (motive := fun _ => M V) ((fun m p => selB (laidAt m g) (.ret ⟨.bool (.lit true), m, p⟩) (.fail "a variable"))) (fun _ _ _ => M.fail "arguments") (l))

noncomputable def kwTrue (f : FuncId) (g : List (Nat × List V)) (r : Kw) : Kw := fun i => selB (Nat.beq i f) (some fun _ => knTrue g) (r i)

theorem Step.of_below {c : Cx} {m : Mem} {w w' : World} (hm : MemR c m w) (hb : Below w.heap.size w w') : Step c m w c m w' :=
  ⟨⟨hm.nb, hm.nt, fun i b h => ⟨(hm.blk i b h).1, (hm.blk i b h).2.world' (fun hl => hb.block _ ((hm.blk i b h).2.lt hl))⟩, hm.inj, hm.tok⟩, Cx.le.refl c, hb.os, hb.tape, hb.output, hb.size, fun b hb' _ => hb.block b hb', fun _ h => .inl h, fun _ h => .inl h⟩

/-- values without variables, and without places: they mean the same everywhere -/
noncomputable def fixed (l : List V) : Bool := (List.rec (motive := fun _ => Bool) (true) (fun v _ ih => (Bool.rec (motive := fun _ => Bool) (false) (ih) (onInt v (fun _ e => onN e (fun _ => true) false) false))) (l))

theorem fixed_ok {c c' : Cx} : ∀ {l : List V} {j : Nat} {v : V} {x : Value}, fixed l = true → l[j]? = some v → VR c v x → VR c' v x
  | [], j, v, x, _, h, _ => by simp at h
  | u :: l, j, v, x, hf, h, hv => by
    have hf : (Bool.rec false (fixed l) (onInt u (fun _ e => onN e (fun _ => true) false) false) : Bool) = true := hf
    cases hu : onInt u (fun _ e => onN e (fun _ => true) false) false with
    | false => rw [hu] at hf; exact absurd hf (by simp)
    | true =>
      rw [hu] at hf
      cases j with
      | succ j => exact fixed_ok hf (by simpa using h) hv
      | zero =>
        simp at h; subst h
        rcases onInt_cases u (fun _ e => onN e (fun _ => true) false) false with ⟨k, e, rfl, he⟩ | he <;> rw [he] at hu
        · cases e with
          | n z => rw [VR.int] at hv ⊢; exact hv
          | _ => exact absurd (show false = true from hu) (by simp)
        · simp at hu

theorem knTrue_ok {P : Program} {f : FuncId} (hf : Callable P f) {g : List (Nat × List V)} (hfx : allL (fun x => fixed x.2) g = true)
    (h : ∀ w : World, (∀ x ∈ g, x.1 < 4096 ∧ BlkR (cx0 fun _ => 0) w (x.1, 0) (.cells x.2 false false none)) → Calls P f #[] w fun e w' => e = .returned (.bool true) ∧ Below w.heap.size w w')
    {c : Cx} {m m' : Mem} {w : World} {p q : Pc} {v : V} {args : Array Value} (hm : MemR c m w) (hp : PcR c.ρ p) (hg : GlobR c) {l : List V} (hl : VRs c l args.toList) (hk : (knTrue g l).gives c.ρ m p v m' q) : CallOK P f args c m w m' v q := by
  cases l with
  | cons x r => exact (M.gives_fail (s := "arguments") hk).elim
  | nil =>
  rw [VRs.nil_iff] at hl
  have ha : args = #[] := by simpa using hl
  subst ha
  have hk : (selB (laidAt m g) (.ret ⟨.bool (.lit true), m, p⟩) (.fail "a variable") : T (Rs V)).out c.ρ = some ⟨v, m', q⟩ := hk
  obtain ⟨h1, h2⟩ := T.out_selB hk
  simp [T.out] at h2
  obtain ⟨rfl, rfl, rfl⟩ := h2
  refine ⟨hf, (h w fun x hx => ?_).mono fun e w' hR => ?_⟩
  · obtain ⟨h3, h4⟩ := andB_ok (allL_ok h1 x hx)
    rw [blt_iff] at h3
    refine ⟨h3, ?_⟩
    cases hb : m.tr.get x.1 with
    | none => rw [hb] at h4; exact absurd (show false = true from h4) (by simp)
    | some b =>
      rw [hb] at h4
      cases b with
      | cells l wr pl g' =>
        have e := eqVV_ok _ _ (show eqVV (.agg l) (.agg x.2) = true from h4)
        simp at e; subst e
        obtain ⟨_, h5⟩ := hm.blk _ _ hb
        rw [hg.2 x.1 h3] at h5
        obtain ⟨cs, t, fr, g1, g2, g3, g4, g5⟩ := h5
        exact ⟨cs, t, fr, g1, fun j v hj => by
          obtain ⟨y, hy, hv⟩ := g2 j v hj
          exact ⟨y, hy, fixed_ok (allL_ok hfx x hx) hj hv⟩, fun h => by simp at h, fun h => by simp at h, trivial⟩
      | _ => exact absurd (show false = true from h4) (by simp)
  · obtain ⟨rfl, hb⟩ := hR
    exact ⟨c, _, rfl, Step.of_below hm hb, VR.lit, hp⟩

theorem kwTrue_ok {P : Program} {ρ : Nat → Int} {f : FuncId} (hf : Callable P f) {g : List (Nat × List V)} {r : Kw} (hr : KwOK P ρ r) (hfx : allL (fun x => fixed x.2) g = true)
    (h : ∀ w : World, (∀ x ∈ g, x.1 < 4096 ∧ BlkR (cx0 fun _ => 0) w (x.1, 0) (.cells x.2 false false none)) → Calls P f #[] w fun e w' => e = .returned (.bool true) ∧ Below w.heap.size w w') : KwOK P ρ (kwTrue f g r) := by
  intro i tr hs ev hev l c m m' w p q v args hc hm hp hg hl hk
  have hs : selB (Nat.beq i f) (some fun _ => knTrue g) (r i) = some tr := hs
  cases hi : Nat.beq i f with
  | true =>
    rw [hi] at hs
    have hs : (some fun _ => knTrue g) = some tr := hs
    simp at hs; subst hs
    rw [beq_iff] at hi; subst hi
    exact knTrue_ok hf hfx h hm hp hg hl hk
  | false =>
    rw [hi] at hs
    exact hr i tr hs ev hev l c m m' w p q v args hc hm hp hg hl hk

theorem callable {P : Program} (hP : Plain P) {f : FuncId} (h : (match P.funcs[f]? with | some fn => fn.body.isSome | none => false) = true) : Callable P f := by
  cases hf : P.funcs[f]? with
  | none => rw [hf] at h; simp at h
  | some fn =>
    rw [hf] at h
    have := hP.fns f fn hf
    simp [goodFn] at this
    exact ⟨fn, hf, by cases hb : fn.body <;> simp_all, by simpa using this.1⟩

end Go.Sy

