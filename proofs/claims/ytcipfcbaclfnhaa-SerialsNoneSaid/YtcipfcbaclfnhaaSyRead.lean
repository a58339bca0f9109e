/-
  What is proved here: the evaluator's reading operations do what the model's do.
  Conditions: none.
-/
import Derived.Test.YtcipfcbaclfnhaaSyVal
import Derived.Laws.Cells
import Derived.Laws.Sem
import Derived.Laws.Append
import Derived.Laws.Tables
namespace Go.Sy

/-! ### types -/

section types
variable {P : Program} {w : World} {t : TypeId}
theorem run_und {d : TypeDesc} (h : P.underlying t = some d) : (underlying t).run P w = .ok d w := by simp [underlying, h]
theorem run_info {i : TypeInfo} (h : P.info? t = some i) : (typeInfo t).run P w = .ok i w := by simp [typeInfo, h]
theorem run_size {n : Nat} (h : szOf P t = some n) : (sizeOf t).run P w = .ok n w := by
  simp only [szOf, Option.map_eq_some_iff] at h
  obtain ⟨i, hi, rfl⟩ := h
  simp [sizeOf, run_info hi]
theorem run_agg {b : Bool} (h : isAggT P t = some b) : (isAgg t).run P w = .ok b w := by
  simp only [isAggT, Option.map_eq_some_iff] at h
  obtain ⟨d, hd, rfl⟩ := h
  simp only [isAgg, Sem.run_bind, run_und hd, Result.andThen_ok]
  cases d <;> rfl
theorem aggSz_some {o : Option Nat} (h : aggSz P t = some o) : (∃ n, o = some n ∧ isAggT P t = some true ∧ szOf P t = some n) ∨ (o = none ∧ isAggT P t = some false ∧ ∃ n, szOf P t = some n) := by
  unfold aggSz at h
  split at h
  · rename_i n h1 h2; simp at h; exact .inl ⟨n, h.symm, h1, h2⟩
  · rename_i n h1 h2; simp at h; exact .inr ⟨h.symm, h1, n, h2⟩
  · simp at h
end types

/-! ### constants -/

theorem mapO_some {α β : Type} {f : α → Option β} : ∀ {l : List α} {r : List β}, mapO f l = some r → r.length = l.length ∧ ∀ (n : Nat) (b : β), r[n]? = some b → ∃ a, l[n]? = some a ∧ f a = some b
  | [], r, h => by
    have h : some [] = some r := h
    simp at h; subst h; simp
  | a :: l, r, h => by
    have h : (Option.rec none (fun b => Option.rec none (fun r => some (b :: r)) (mapO f l)) (f a) : Option (List β)) = some r := h
    cases ha : f a with
    | none => rw [ha] at h; simp at h
    | some b =>
      rw [ha] at h
      cases hl : mapO f l with
      | none => rw [hl] at h; simp at h
      | some q =>
        rw [hl] at h
        have h : some (b :: q) = some r := h
        simp at h; subst h
        obtain ⟨h1, h2⟩ := mapO_some hl
        refine ⟨by simp [h1], fun n b' hb => ?_⟩
        cases n with
        | zero => simp at hb; subst hb; exact ⟨a, by simp, ha⟩
        | succ n => simpa using h2 n b' (by simpa using hb)

theorem ofVal_ok {c : Cx} : ∀ (d : Nat) {x : Value} {v : V}, ofVal d x = some v → VR c v x
  | 0, _, _, h => by simp [ofVal] at h
  | d + 1, x, v, h => by
    have hl : ∀ {xs : Array Value} {l : List V}, mapO (ofVal d) xs.toList = some l → VRs c l xs.toList := by
      intro xs l hm
      obtain ⟨h1, h2⟩ := mapO_some hm
      exact VRs.of_get h1.symm fun n u hu => by
        obtain ⟨a, ha, hf⟩ := h2 n u hu
        exact ⟨a, ha, ofVal_ok d hf⟩
    cases x <;> simp only [ofVal] at h
    case bool b => simp at h; subst h; exact VR.lit
    case int k n =>
      unfold intVal at h
      cases hc : (leZ (kMin k) n && leZ n (kMax k)) <;> simp [hc] at h
      subst h
      simp only [Bool.and_eq_true, leZ_iff] at hc
      exact VR.int.2 ⟨rfl, hc.1, hc.2⟩
    case string s =>
      simp [strVal'] at h; subst h
      exact VR.str.2 ⟨s, rfl, by simp [BR, E.den, Function.comp_def]⟩
    case pointer a => cases a <;> simp [ptrVal] at h; subst h; exact VR.nilPtr.2 rfl
    case slice a n k =>
      unfold sliceVal at h
      split at h <;> simp at h
      subst h; exact VR.nilSlice.2 rfl
    case map r => cases r <;> simp [mapVal] at h; subst h; exact VR.nilMap.2 rfl
    case nilFunc => simp at h; subst h; exact VR.nilFunc.2 rfl
    case nilIface => simp at h; subst h; exact VR.nilIface.2 rfl
    case func fn a b =>
      unfold funcVal at h
      split at h <;> simp at h
      rename_i l l' h1 h2
      subst h; exact VR.func.2 ⟨a, b, rfl, hl h1, hl h2⟩
    case iface t y =>
      simp only [Option.map_eq_some_iff] at h
      obtain ⟨u, h1, rfl⟩ := h
      exact VR.iface.2 ⟨y, rfl, ofVal_ok d h1⟩
    case agg cs =>
      simp only [Option.map_eq_some_iff] at h
      obtain ⟨u, h1, rfl⟩ := h
      exact VR.agg.2 ⟨cs, rfl, hl h1⟩
    case tuple cs =>
      simp only [Option.map_eq_some_iff] at h
      obtain ⟨u, h1, rfl⟩ := h
      exact VR.tuple.2 ⟨cs, rfl, hl h1⟩
    all_goals simp at h

theorem constV_ok {c : Cx} (x : Value) : VR c (constV x) x := by
  unfold constV
  cases h : ofVal 8 x with
  | none => exact VR.bad
  | some v => exact ofVal_ok 8 h

theorem zeroOf_ok {P : Program} {t : TypeId} {z : V} (h : zeroOf P t = some z) : ∃ i zv, P.info? t = some i ∧ i.zero = some zv ∧ (∀ c, VR c z zv) ∧ ∀ w, (zeroValue t).run P w = .ok zv w := by
  unfold zeroOf at h
  split at h
  · rename_i i hi
    split at h
    · rename_i zv hz
      exact ⟨i, zv, hi, hz, fun c => ofVal_ok 8 h, fun w => by simp [zeroValue, run_info hi, hz]⟩
    · simp at h
  · simp at h

/-! ### lists -/

section lists
variable {α : Type}
theorem dropN_eq : ∀ (n : Nat) (l : List α), dropN n l = l.drop n
  | 0, _ => rfl
  | _ + 1, [] => rfl
  | n + 1, _ :: l => dropN_eq n l

theorem nth_eq : ∀ (n : Nat) (l : List α), nth n l = l[n]?
  | 0, [] => rfl
  | 0, _ :: _ => rfl
  | _ + 1, [] => rfl
  | n + 1, _ :: l => by rw [List.getElem?_cons_succ]; exact nth_eq n l

theorem takeE_eq : ∀ {n : Nat} {l r : List α}, takeE n l = some r → r = l.take n ∧ r.length = n
  | 0, l, r, h => by
    have h : some [] = some r := h
    simp at h; subst h; simp
  | n + 1, [], r, h => by
    have h : none = some r := h
    simp at h
  | n + 1, a :: l, r, h => by
    have h : (Option.rec none (fun q => some (a :: q)) (takeE n l) : Option (List α)) = some r := h
    cases hq : takeE n l with
    | none => rw [hq] at h; simp at h
    | some q =>
      rw [hq] at h
      have h : some (a :: q) = some r := h
      simp at h; subst h
      obtain ⟨h1, h2⟩ := takeE_eq hq
      exact ⟨by simp [h1], by simp [h2]⟩

theorem lenL_eq : ∀ (l : List α), lenL l = l.length
  | [] => rfl
  | _ :: l => congrArg Nat.succ (lenL_eq l)
end lists

theorem catV_eq : ∀ (a b : List V), catV a b = a ++ b
  | [], _ => rfl
  | x :: a, b => congrArg (List.cons x) (catV_eq a b)

theorem catE_eq : ∀ (a b : List E), catE a b = a ++ b
  | [], _ => rfl
  | x :: a, b => congrArg (List.cons x) (catE_eq a b)

/-! ### reading memory -/

section mem
variable {P : Program} {c : Cx} {m : Mem} {w : World} {p q : Pc}

theorem Cx.ad_add (c : Cx) (i o n : Nat) : (c.ad i o).add n = c.ad i (o + n) := by
  unfold Addr.add Cx.ad
  split
  · rename_i h; subst h; rfl
  · simp [Nat.add_assoc]

theorem onCells_gives {α : Type} {b : Option Blk} {f : List V → Bool → Bool → Option (Nat × Nat) → T α} {s : String} {r : α} {ρ : Nat → Int}
    (h : (onCells b f (.fail s)).out ρ = some r) : ∃ l wr pl g, b = some (.cells l wr pl g) ∧ (f l wr pl g).out ρ = some r := by
  cases b with
  | none => simp [onCells, T.out] at h
  | some b =>
    cases b with
    | cells l wr pl g => exact ⟨l, wr, pl, g, rfl, h⟩
    | map => simp [onCells, T.out] at h
    | siter => simp [onCells, T.out] at h
    | srow => simp [onCells, T.out] at h
    | pm => simp [onCells, T.out] at h

theorem onMapB_gives {α : Type} {b : Option Blk} {f : List (V × V × Nat) → Nat → Bool → T α} {s : String} {r : α} {ρ : Nat → Int}
    (h : (onMapB b f (.fail s)).out ρ = some r) : ∃ es k wr, b = some (.map es k wr) ∧ (f es k wr).out ρ = some r := by
  cases b with
  | none => simp [onMapB, T.out] at h
  | some b =>
    cases b with
    | map es k wr => exact ⟨es, k, wr, rfl, h⟩
    | cells => simp [onMapB, T.out] at h
    | siter => simp [onMapB, T.out] at h
    | srow => simp [onMapB, T.out] at h
    | pm => simp [onMapB, T.out] at h

/-- a map whose order is not known, or another block -/
theorem onPm_cases {α : Type} {b : Option Blk} (f : List (V × V) → Bool → α) (d : α) : (∃ es wr, b = some (.pm es wr) ∧ onPm b f d = f es wr) ∨ onPm b f d = d := by
  cases b with
  | none => exact .inr rfl
  | some b => cases b with
    | pm es wr => exact .inl ⟨es, wr, rfl, rfl⟩
    | _ => exact .inr rfl

theorem KvR.length {c : Cx} : ∀ {es : List (V × V)} {l : List MapEntry}, KvR c es l → l.length = es.length
  | [], [], _ => rfl
  | _ :: _, _ :: _, ⟨_, _, h⟩ => by simp [KvR.length h]
  | [], _ :: _, h => h.elim
  | _ :: _, [], h => h.elim

theorem PmR.length {c : Cx} {es : List (V × V)} {l : List MapEntry} (h : PmR c es l) : l.length = es.length := by
  obtain ⟨l', h1, h2⟩ := h
  rw [← h1.length_eq, h2.length]

/-- a cell that is known -/
theorem cell_known (hm : MemR c m w) {i o : Nat} {l : List V} {wr pl : Bool} {g : Option (Nat × Nat)} {v : V} (hb : m.tr.get i = some (.cells l wr pl g)) (hv : l[o]? = some v) :
    ∃ x, w.cell? (c.ad i o) = some x ∧ VR c v x := by
  obtain ⟨_, cs, t, fr, h1, h2, _⟩ := hm.blk i _ hb
  obtain ⟨x, hx, hr⟩ := h2 o v hv
  exact ⟨x, by simp [World.cell?, Cx.ad, h1, hx], hr⟩

theorem rd1_ok (hm : MemR c m w) {i o : Nat} {v : V} (h : (rd1 i o).gives c.ρ m p v q) : q = p ∧ ∃ x, (load (c.ad i o)).run P w = .ok x w ∧ VR c v x := by
  obtain ⟨l, wr, pl, g, hb, h⟩ := onCells_gives h
  have h : (R.opt "load a cell that is not known" (nth o l)).gives c.ρ m p v q := h
  obtain ⟨h1, rfl⟩ := R.gives_opt h
  rw [nth_eq] at h1
  obtain ⟨x, hx, hr⟩ := cell_known hm hb h1
  exact ⟨rfl, x, by simp [run_load, hx], hr⟩

theorem rdCells_ok (hm : MemR c m w) {i o n : Nat} {r : List V} (h : (rdCells i o n).gives c.ρ m p r q) :
    q = p ∧ r.length = n ∧ ∃ xs : Array Value, (loadCells (c.ad i o) n).run P w = .ok xs w ∧ VRs c r xs.toList ∧ ∀ (j : Nat) (y : Value), xs.toList[j]? = some y → w.cell? ((c.ad i o).add j) = some y := by
  obtain ⟨l, wr, pl, g, hb, h⟩ := onCells_gives h
  have h : (R.opt "load a cell that is not known" (takeE n (dropN o l))).gives c.ρ m p r q := h
  obtain ⟨h1, rfl⟩ := R.gives_opt h
  rw [dropN_eq] at h1
  obtain ⟨h2, h3⟩ := takeE_eq h1
  have hc : ∀ j, j < n → ∃ v x, r[j]? = some v ∧ w.cell? ((c.ad i o).add j) = some x ∧ VR c v x := by
    intro j hj
    have hv : r[j]? = some r[j] := List.getElem?_eq_getElem (by omega)
    have hl : l[o + j]? = some r[j] := by
      have : r[j]? = (l.drop o)[j]? := by rw [h2, List.getElem?_take_of_lt hj]
      rw [← hv, this, List.getElem?_drop]
    obtain ⟨x, hx, hr⟩ := cell_known hm hb hl
    exact ⟨r[j], x, hv, by rw [Cx.ad_add]; exact hx, hr⟩
  refine ⟨rfl, h3, ((List.range n).map fun j => (w.cell? ((c.ad i o).add j)).getD undef).toArray, ?_, ?_, ?_⟩
  · exact run_loadCells w (c.ad i o) n _ fun j hj => by
      obtain ⟨v, x, _, hx, _⟩ := hc j hj
      simp [hx]
  · refine VRs.of_get (by simp [h3]) fun j v hv => ?_
    have hj : j < n := by
      rcases Nat.lt_or_ge j n with h' | h'
      · exact h'
      · rw [List.getElem?_eq_none (by omega)] at hv; simp at hv
    obtain ⟨v', x, hv', hx, hr⟩ := hc j hj
    rw [hv] at hv'; simp at hv'; subst hv'
    exact ⟨x, by simp [hj, hx], hr⟩
  · intro j y hy
    simp at hy
    obtain ⟨k, hk, rfl⟩ := hy
    rcases Nat.lt_or_ge j n with h' | h'
    · rw [List.getElem?_range h'] at hk; simp at hk; subst hk
      obtain ⟨v', x, hv', hx, hr⟩ := hc j h'
      simp [hx]
    · rw [List.getElem?_eq_none (by simpa using h')] at hk; simp at hk

theorem loadV_ok (hm : MemR c m w) {t : TypeId} {i o : Nat} {v : V} (h : (loadV P t i o).gives c.ρ m p v q) :
    q = p ∧ ∃ x, (loadVar t (c.ad i o)).run P w = .ok x w ∧ VR c v x := by
  unfold loadV at h
  cases ha : aggSz P t with
  | none => rw [ha] at h; exact (R.gives_fail h).elim
  | some a =>
    rw [ha] at h
    rcases aggSz_some ha with ⟨n, rfl, h1, h2⟩ | ⟨rfl, h1, _⟩
    · have h : ((rdCells i o n).bnd fun l => R.pure (.agg l)).gives c.ρ m p v q := h
      obtain ⟨l, p1, h3, h4⟩ := R.gives_bnd h
      obtain ⟨rfl, rfl⟩ := R.gives_pure h4
      obtain ⟨rfl, _, xs, h5, h6, _⟩ := rdCells_ok (P := P) hm h3
      exact ⟨rfl, .agg xs, by simp [loadVar, run_agg h1, run_size h2, h5], VR.agg.2 ⟨xs, rfl, h6⟩⟩
    · have h : (rd1 i o).gives c.ρ m p v q := h
      obtain ⟨rfl, x, h3, h4⟩ := rd1_ok (P := P) hm h
      exact ⟨rfl, x, by simp only [loadVar, Sem.run_bind, run_agg h1, Result.andThen_ok, Bool.false_eq_true, if_false, h3], h4⟩

theorem mustR_gives (hp : PcR c.ρ p) {b : B} {u : Unit} (h : (mustR b).gives c.ρ m p u q) : b.den c.ρ = true ∧ q = p := by
  unfold R.gives mustR at h
  cases hd : decE p b with
  | none => rw [hd] at h; simp [T.out] at h
  | some v =>
    rw [hd] at h
    have h : (selB v (.ret ⟨(), p⟩) (.fail "a bound that does not hold") : T (Rp Unit)).out c.ρ = some ⟨u, q⟩ := h
    cases v with
    | false => simp [selB, T.out] at h
    | true =>
      simp [selB, T.out] at h
      exact ⟨decE_ok hp hd, h.symm⟩

theorem onRow_gives {α : Type} {b : Option Blk} {f : Nat → List Lf → E → T α} {s : String} {r : α} {ρ : Nat → Int}
    (h : (onRow b f (.fail s)).out ρ = some r) : ∃ a ls n, b = some (.srow a ls n) ∧ (f a ls n).out ρ = some r := by
  cases b with
  | none => simp [onRow, T.out] at h
  | some b =>
    cases b with
    | srow a ls n => exact ⟨a, ls, n, rfl, h⟩
    | _ => simp [onRow, T.out] at h

theorem leafV_ok {a r j : Nat} {e : E} {l : Lf} {x : Value} (he : e.den c.ρ = (j : Int)) (hx : l.Is (c.ρ (rowVar a r j)) x) : VR c (leafV a e l r) x := by
  have hv : ∀ lo hi : Int, lo ≤ c.ρ (rowVar a r j) → c.ρ (rowVar a r j) ≤ hi → (E.rd a r lo hi e).den c.ρ = c.ρ (rowVar a r j) := by
    intro lo hi h0 h1
    show clampZ lo hi (c.ρ (rowVar a r (e.den c.ρ).toNat)) = _
    rw [he, Int.toNat_natCast]; exact clampZ_eq h0 h1
  cases l with
  | int k =>
    obtain ⟨rfl, h0, h1⟩ := hx
    show VR c (V.int k (.rd a r (kMin k) (kMax k) e)) _
    rw [VR.int, hv _ _ h0 h1]
    exact ⟨rfl, h0, h1⟩
  | bool =>
    obtain ⟨rfl, h0, h1⟩ := hx
    show VR c (V.bool (.eq (.rd a r 0 1 e) (.n 1))) _
    rw [VR.bool]
    show _ = Value.bool ((E.rd a r 0 1 e).den c.ρ == 1)
    rw [hv _ _ h0 h1]

theorem leafVs_get {a : Nat} {e : E} : ∀ {ls : List Lf} {r j : Nat}, (leafVs a e ls r)[j]? = (ls[j]?).map fun l => leafV a e l (r + j)
  | [], r, j => by simp [leafVs]
  | l :: ls, r, 0 => by
    show (leafV a e l r :: leafVs a e ls (r + 1))[0]? = _
    simp
  | l :: ls, r, j + 1 => by
    show (leafV a e l r :: leafVs a e ls (r + 1))[j + 1]? = _
    rw [List.getElem?_cons_succ, leafVs_get, List.getElem?_cons_succ, show r + 1 + j = r + (j + 1) by omega]

theorem row_cell (hm : MemR c m w) {i a : Nat} {ls : List Lf} {n : E} (hb : m.tr.get i = some (.srow a ls n)) {q r : Nat} {l : Lf} (hq : (q : Int) < n.den c.ρ) (hl : ls[r]? = some l) :
    ∃ x, w.cell? (c.ad i (q * ls.length + r)) = some x ∧ l.Is (c.ρ (rowVar a r q)) x := by
  obtain ⟨_, hrow⟩ := hm.blk i _ hb
  obtain ⟨cs, t, fr, h1, h2⟩ := hrow (by omega)
  obtain ⟨x, hx, hr⟩ := h2 q r l hq hl
  exact ⟨x, by simp [World.cell?, Cx.ad, h1, hx], hr⟩

/-- cells that are known, one by one -/
theorem loadCells_of {i o n : Nat} {r : List V} (h3 : r.length = n) (hc : ∀ j, j < n → ∃ v x, r[j]? = some v ∧ w.cell? ((c.ad i o).add j) = some x ∧ VR c v x) :
    ∃ xs : Array Value, (loadCells (c.ad i o) n).run P w = .ok xs w ∧ VRs c r xs.toList := by
  refine ⟨((List.range n).map fun j => (w.cell? ((c.ad i o).add j)).getD undef).toArray, ?_, ?_⟩
  · exact run_loadCells w (c.ad i o) n _ fun j hj => by
      obtain ⟨v, x, _, hx, _⟩ := hc j hj
      simp [hx]
  · refine VRs.of_get (by simp [h3]) fun j v hv => ?_
    have hj : j < n := by
      rcases Nat.lt_or_ge j n with h' | h'
      · exact h'
      · rw [List.getElem?_eq_none (by omega)] at hv; simp at hv
    obtain ⟨v', x, hv', hx, hr⟩ := hc j hj
    rw [hv] at hv'; simp at hv'; subst hv'
    exact ⟨x, by simp [hj, hx], hr⟩

theorem loadS_ok (hm : MemR c m w) (hp : PcR c.ρ p) {t : TypeId} {i sz j f : Nat} {e : E} {v : V} (he : e.den c.ρ = (j : Int)) (h : (loadS P t i sz e f).gives c.ρ m p v q) :
    q = p ∧ ∃ x, (loadVar t (c.ad i (j * sz + f))).run P w = .ok x w ∧ VR c v x := by
  obtain ⟨a, ls, n, hb, h⟩ := onRow_gives h
  have h : (selB (Nat.beq (lenL ls) sz) ((mustR (mkLt e n)).bnd fun _ => (Option.rec (R.fail "load") (fun k => Option.rec (R.opt "load a row" ((nth f ls).map fun l => leafV a e l f)) (fun k => R.opt "load a row" ((takeE k (dropN f ls)).map fun l => .agg (leafVs a e l f))) k) (aggSz P t) : R V)) (R.fail "load sizes")).gives c.ρ m p v q := by
    cases hs : Nat.beq (lenL ls) sz <;> rw [hs] at h <;> exact h
  obtain ⟨h0, h⟩ := R.gives_if h
  rw [beq_iff, lenL_eq] at h0
  obtain ⟨_, p1, h1, h2⟩ := R.gives_bnd h
  obtain ⟨h3, rfl⟩ := mustR_gives hp h1
  rw [mkLt_den] at h3
  have hlt : (j : Int) < n.den c.ρ := by
    have := of_decide_eq_true h3
    rw [he] at this; exact this
  cases ha : aggSz P t with
  | none => rw [ha] at h2; exact (R.gives_fail (s := "load") h2).elim
  | some k =>
    rw [ha] at h2
    rcases aggSz_some ha with ⟨k, rfl, g1, g2⟩ | ⟨rfl, g1, _⟩
    · obtain ⟨h4, rfl⟩ := R.gives_opt (show (R.opt "load a row" ((takeE k (dropN f ls)).map fun l => V.agg (leafVs a e l f))).gives c.ρ m p1 v q from h2)
      obtain ⟨ls', h5, rfl⟩ := Option.map_eq_some_iff.1 h4
      rw [dropN_eq] at h5
      obtain ⟨h6, h7⟩ := takeE_eq h5
      have hlen : (leafVs a e ls' f).length = k := by
        have key : ∀ (l : List Lf) (r : Nat), (leafVs a e l r).length = l.length := by
          intro l
          induction l with
          | nil => intro r; rfl
          | cons x l ih => intro r; show (leafVs a e l (r + 1)).length + 1 = _; rw [ih]; rfl
        rw [key, h7]
      obtain ⟨xs, k1, k2⟩ := loadCells_of (P := P) (c := c) (w := w) (i := i) (o := j * sz + f) hlen fun jj hjj => by
        have hl : ls'[jj]? = some ls'[jj] := List.getElem?_eq_getElem (by omega)
        have hl' : ls[f + jj]? = some ls'[jj] := by
          have : ls'[jj]? = (ls.drop f)[jj]? := by rw [h6, List.getElem?_take_of_lt hjj]
          rw [← hl, this, List.getElem?_drop]
        obtain ⟨x, hx, hr⟩ := row_cell hm hb hlt hl'
        refine ⟨leafV a e ls'[jj] (f + jj), x, by rw [leafVs_get, hl]; rfl, ?_, leafV_ok he hr⟩
        rw [Cx.ad_add, ← hx, h0]; congr 2; omega
      exact ⟨rfl, .agg xs, by simp [loadVar, run_agg g1, run_size g2, k1], VR.agg.2 ⟨xs, rfl, k2⟩⟩
    · obtain ⟨h4, rfl⟩ := R.gives_opt (show (R.opt "load a row" ((nth f ls).map fun l => leafV a e l f)).gives c.ρ m p1 v q from h2)
      obtain ⟨l, h5, rfl⟩ := Option.map_eq_some_iff.1 h4
      rw [nth_eq] at h5
      obtain ⟨x, hx, hr⟩ := row_cell hm hb hlt h5
      rw [h0] at hx
      exact ⟨rfl, x, by simp only [loadVar, Sem.run_bind, run_agg g1, Result.andThen_ok, Bool.false_eq_true, if_false, run_load, hx], leafV_ok he hr⟩

theorem loadPtr_ok (hm : MemR c m w) (hp : PcR c.ρ p) {t : TypeId} {a v : V} {x : Value} (ha : VR c a x) (h : (loadPtr P t a).gives c.ρ m p v q) :
    q = p ∧ ∃ i o, x = .pointer (some (c.ad i o)) ∧ ∃ y, (loadVar t (c.ad i o)).run P w = .ok y w ∧ VR c v y := by
  unfold loadPtr at h
  rcases onPtr_cases a (loadV P t) (loadX P t a) with ⟨i, o, rfl, he⟩ | he <;> rw [he] at h
  · obtain ⟨_, rfl⟩ := VR.ptr.1 ha
    obtain ⟨rfl, y, h1, h2⟩ := loadV_ok hm h
    exact ⟨rfl, i, o, rfl, y, h1, h2⟩
  · cases a <;> try exact (R.gives_fail (s := "load no address") h).elim
    case sptr i sz e f =>
      obtain ⟨_, j, h1, rfl⟩ := VR.sptr.1 ha
      obtain ⟨rfl, y, h2, h3⟩ := loadS_ok hm hp h1 (show (loadS P t i sz e f).gives c.ρ m p v q from h)
      exact ⟨rfl, i, _, rfl, y, h2, h3⟩

/-- part of an aggregate -/
theorem partV_ok {t : TypeId} {l : List V} {off : Nat} {v : V} {xs : Array Value} (hl : VRs c l xs.toList) (h : partV P t l off = some v) :
    ∃ x, (part t xs off).run P w = .ok x w ∧ VR c v x := by
  unfold partV at h
  cases ha : aggSz P t with
  | none => rw [ha] at h; simp at h
  | some a =>
    rw [ha] at h
    rcases aggSz_some ha with ⟨n, rfl, h1, h2⟩ | ⟨rfl, h1, _⟩
    · have h : (takeE n (dropN off l)).map .agg = some v := h
      rw [dropN_eq] at h
      obtain ⟨r, h3, rfl⟩ := Option.map_eq_some_iff.1 h
      obtain ⟨h4, h5⟩ := takeE_eq h3
      refine ⟨.agg (xs.extract off (off + n)), by simp [part, run_agg h1, run_size h2], VR.agg.2 ⟨_, rfl, ?_⟩⟩
      have hlen := hl.length
      have h6 : off + n ≤ l.length ∨ n = 0 := by
        rw [h4] at h5; simp at h5; omega
      refine VRs.of_get ?_ fun j u hu => ?_
      · simp at hlen ⊢; omega
      · rw [h4, List.getElem?_take] at hu
        split at hu
        · rename_i hj
          rw [List.getElem?_drop] at hu
          obtain ⟨x, hx, hr⟩ := hl.get hu
          exact ⟨x, by simp [hj]; simpa using hx, hr⟩
        · simp at hu
    · have h : nth off l = some v := h
      rw [nth_eq] at h
      obtain ⟨x, hx, hr⟩ := hl.get h
      exact ⟨x, by simp [part, run_agg h1]; simp at hx; simp [hx], hr⟩
end mem

end Go.Sy
