/-
  What is proved here: arguments of integers, bools, and structs of these, as the evaluator's values; a law's calls out of one run of the evaluator.
  Conditions: none.
-/
import Derived.Test.YtcipfcbaclfnhaaSyLaw
namespace Go.Sy
open Go.ChangeShapes Go.WideShapes Go.ChangeAt Go.RowKit

def valOf : Value → Int
  | .int _ n => n
  | .bool b => if b then 1 else 0
  | _ => 0

/-- a cell of that kind -/
def Lf.R : Lf → Value → Prop
  | .int k, v => ∃ n, v = .int k n ∧ (Lit.int k n).wf = true
  | .bool, v => ∃ b, v = .bool b

def LfsR : List Lf → List Value → Prop
  | [], vs => vs = []
  | l :: ls, vs => ∃ v r, vs = v :: r ∧ l.R v ∧ LfsR ls r

def flatFs (flat : TypeId → Option (List Lf)) (P : Program) : List Field → Nat → Nat → Option (List Lf)
  | [], off, n => if off = n then some [] else none
  | f :: fs, off, n => if f.offset = off then (flat f.type).bind fun l => if l.length = P.cellsOf f.type then (flatFs flat P fs (off + l.length) n).map (l ++ ·) else none else none

def flatAr (l : List Lf) : Nat → List Lf
  | 0 => []
  | n + 1 => l ++ flatAr l n

/-- the cells of a type -/
def flatT (P : Program) : Nat → TypeId → Option (List Lf)
  | 0, _ => none
  | d + 1, t =>
    match P.underlying t with
    | some (.int k) => some [.int k]
    | some .bool => some [.bool]
    | some (.struct fs) => flatFs (flatT P d) P fs.toList 0 (P.cellsOf t)
    | some (.array n e) => (flatT P d e).bind fun l => if l.length = P.cellsOf e ∧ n * l.length = P.cellsOf t then some (flatAr l n) else none
    | _ => none

theorem LfsR.length : ∀ {ls : List Lf} {vs : List Value}, LfsR ls vs → vs.length = ls.length
  | [], vs, h => by have h : vs = [] := h; subst h; rfl
  | l :: ls, vs, h => by
    obtain ⟨v, r, rfl, _, h2⟩ := h
    simp [h2.length]

theorem LfsR.append : ∀ {ls ls' : List Lf} {vs vs' : List Value}, LfsR ls vs → LfsR ls' vs' → LfsR (ls ++ ls') (vs ++ vs')
  | [], _, vs, _, h, h' => by have h : vs = [] := h; subst h; exact h'
  | l :: ls, _, vs, _, h, h' => by
    obtain ⟨v, r, rfl, h1, h2⟩ := h
    exact ⟨v, _, rfl, h1, h2.append h'⟩

section
variable {H : Type} {enc : TypeId × Value → H} {P : Program} {W : World} {base : Nat} {sp : Nat → Bool} {held : Bool}

/-- the cells that a datum tells -/
def dataV : Nat → DataW H → Option (List Value)
  | _ + 1, .lit (.int k n) => some [.int k n]
  | _ + 1, .lit (.bool b) => some [.bool b]
  | d + 1, .agg parts => (parts.mapM (dataV d)).map List.flatten
  | _, _ => none

theorem flatFs_ok {flat : TypeId → Option (List Lf)} {rd : TypeId → List Value → Option (DataW H × List MemPlace)} {dv : DataW H → Option (List Value)} (hf : ∀ t l cs x, flat t = some l → rd t cs = some x → LfsR l cs ∧ dv x.1 = some cs) : ∀ {fs : List Field} {off n : Nat} {sh : List Lf} {cs : List Value} {xs : List (DataW H × List MemPlace)},
    cs.length = n → off ≤ n → flatFs flat P fs off n = some sh → fs.mapM (fun f => rd f.type ((cs.drop f.offset).take (P.cellsOf f.type))) = some xs → LfsR sh (cs.drop off) ∧ ((xs.map (·.1)).mapM dv).map List.flatten = some (cs.drop off)
  | [], off, n, sh, cs, xs, hn, ho, h, hx => by
    unfold flatFs at h
    split at h
    · rename_i e
      simp at h; subst h
      have : cs.drop off = [] := List.drop_eq_nil_of_le (by omega)
      rw [this]
      simp at hx; subst hx
      exact ⟨rfl, rfl⟩
    · simp at h
  | f :: fs, off, n, sh, cs, xs, hn, ho, h, hm => by
    unfold flatFs at h
    split at h
    · rename_i e
      obtain ⟨l, h1, h2⟩ := Option.bind_eq_some_iff.1 h
      split at h2
      · rename_i hl
        obtain ⟨r, h3, rfl⟩ := Option.map_eq_some_iff.1 h2
        rw [List.mapM_cons] at hm
        cases hx : rd f.type ((cs.drop f.offset).take (P.cellsOf f.type)) with
        | none => simp [hx] at hm
        | some x =>
          rw [hx] at hm
          cases hy : fs.mapM (fun f => rd f.type ((cs.drop f.offset).take (P.cellsOf f.type))) with
          | none => simp [hy] at hm
          | some ys =>
            rw [hy] at hm
            have hm : some (x :: ys) = some xs := hm
            simp at hm; subst hm
            have h4 := hf _ _ _ _ h1 hx
            have hlen := h4.1.length
            rw [List.length_take, List.length_drop] at hlen
            have hle : off + l.length ≤ n := by omega
            obtain ⟨h5, h6⟩ := flatFs_ok hf hn hle h3 hy
            have e2 : cs.drop off = (cs.drop f.offset).take (P.cellsOf f.type) ++ cs.drop (off + l.length) := by
              rw [e, ← hl, ← List.drop_drop, List.take_append_drop]
            rw [e2]
            obtain ⟨css, h7, h8⟩ := Option.map_eq_some_iff.1 h6
            exact ⟨h4.1.append h5, by simp [List.mapM_cons, h4.2, h7, h8]⟩
      · simp at h2
    · simp at h

theorem flatAr_ok {l : List Lf} {e : TypeId} {rd : List Value → Option (DataW H × List MemPlace)} {dv : DataW H → Option (List Value)} (hf : ∀ cs x, rd cs = some x → LfsR l cs ∧ dv x.1 = some cs) (hl : l.length = P.cellsOf e) {cs : List Value} : ∀ {n i : Nat} {xs : List (DataW H × List MemPlace)},
    cs.length = (i + n) * l.length → ((List.range' i n).mapM fun j => rd ((cs.drop (j * P.cellsOf e)).take (P.cellsOf e))) = some xs → LfsR (flatAr l n) (cs.drop (i * l.length)) ∧ ((xs.map (·.1)).mapM dv).map List.flatten = some (cs.drop (i * l.length))
  | 0, i, xs, hn, h => by
    have : cs.drop (i * l.length) = [] := List.drop_eq_nil_of_le (by rw [hn]; simp)
    rw [this]
    simp at h; subst h
    exact ⟨rfl, rfl⟩
  | n + 1, i, xs, hn, h => by
    rw [List.range'_succ, List.mapM_cons] at h
    cases hx : rd ((cs.drop (i * P.cellsOf e)).take (P.cellsOf e)) with
    | none => simp [hx] at h
    | some x =>
      rw [hx] at h
      cases hy : (List.range' (i + 1) n).mapM (fun j => rd ((cs.drop (j * P.cellsOf e)).take (P.cellsOf e))) with
      | none => simp [hy] at h
      | some ys =>
        rw [hy] at h
        have h : some (x :: ys) = some xs := h
        simp at h; subst h
        have h1 := hf _ _ hx
        obtain ⟨h2, h3⟩ := flatAr_ok hf hl (n := n) (i := i + 1) (cs := cs) (by rw [hn]; congr 1; omega) hy
        have e2 : cs.drop (i * l.length) = (cs.drop (i * P.cellsOf e)).take (P.cellsOf e) ++ cs.drop ((i + 1) * l.length) := by
          rw [hl, Nat.succ_mul, ← List.drop_drop, List.take_append_drop]
        rw [e2]
        obtain ⟨css, h7, h8⟩ := Option.map_eq_some_iff.1 h3
        exact ⟨h1.1.append h2, by simp [List.mapM_cons, h1.2, h7, h8]⟩

theorem flatT_ok : ∀ (d : Nat) (n : Nat) (t : TypeId) (l : List Lf) (cs : List Value) (x : DataW H × List MemPlace), flatT P d t = some l → DataW.trod enc P W base sp held n t cs = some x → LfsR l cs ∧ dataV d x.1 = some cs
  | 0, _, _, _, _, _, h, _ => by simp [flatT] at h
  | d + 1, 0, _, _, _, _, _, h => by simp [DataW.trod] at h
  | d + 1, n + 1, t, l, cs, x, h, hx => by
    unfold flatT at h
    split at h
    · rename_i k hu
      simp at h; subst h
      obtain ⟨m, rfl, rfl, hw⟩ := DataW.trod_int hu hx
      exact ⟨⟨_, [], rfl, ⟨m, rfl, hw⟩, rfl⟩, rfl⟩
    · rename_i hu
      simp at h; subst h
      obtain ⟨b, rfl, rfl⟩ := DataW.trod_bool hu hx
      exact ⟨⟨_, [], rfl, ⟨b, rfl⟩, rfl⟩, rfl⟩
    · rename_i fs hu
      have hx' := hx
      simp only [DataW.trod, hu] at hx'
      split at hx'
      · rename_i hlen
        obtain ⟨xs, h1, rfl⟩ := Option.map_eq_some_iff.1 hx'
        have := flatFs_ok (rd := DataW.trod enc P W base sp held n) (dv := dataV d) (fun t l cs x h hx => flatT_ok d n t l cs x h hx) hlen (Nat.zero_le _) h h1
        simpa [dataV] using this
      · simp at hx'
    · rename_i m e hu
      have hx' := hx
      simp only [DataW.trod, hu] at hx'
      obtain ⟨l', h1, h2⟩ := Option.bind_eq_some_iff.1 h
      split at h2
      · rename_i hl
        simp at h2; subst h2
        split at hx'
        · rename_i hlen
          obtain ⟨xs, h3, rfl⟩ := Option.map_eq_some_iff.1 hx'
          rw [List.range_eq_range'] at h3
          have := flatAr_ok (P := P) (e := e) (l := l') (rd := DataW.trod enc P W base sp held n e) (dv := dataV d) (fun cs x hx => flatT_ok d n e l' cs x h1 hx) hl.1 (cs := cs) (n := m) (i := 0)
            (by rw [hlen, ← hl.2, Nat.zero_add]) h3
          simpa [dataV] using this
        · simp at hx'
      · simp at h2
    · simp at h

/-! ### the parameters -/

/-- the value that stands for a cell: the variable i -/
def Lf.v : Lf → Nat → V
  | .int k, i => .int k (.x i)
  | .bool, i => .bool (.eq (.x i) (.n 1))

noncomputable def Lf.rng : Lf → Int × Int
  | .int k => (kMin k, kMax k)
  | .bool => (0, 1)

def cellsV : List Lf → Nat → List V
  | [], _ => []
  | l :: ls, i => l.v i :: cellsV ls (i + 1)

theorem wf_rng {k : IntKind} {n : Int} (h : (Lit.int k n).wf = true) : kMin k ≤ n ∧ n ≤ kMax k := by
  cases k <;> simp [Lit.wf, IntKind.min, IntKind.max, IntKind.signed, IntKind.bits] at h <;> simp [kMin, kMax, IntKind.signed, limN] <;> omega

theorem Lf.v_ok {c : Cx} {l : Lf} {v : Value} {i : Nat} (h : l.R v) (hi : c.ρ i = valOf v) : VR c (l.v i) v := by
  cases l with
  | int k =>
    obtain ⟨n, rfl, hw⟩ := h
    have hi : c.ρ i = n := hi
    obtain ⟨h1, h2⟩ := wf_rng hw
    exact VR.int.2 ⟨by show _ = Value.int k (c.ρ i); rw [hi], by show _ ≤ c.ρ i; rw [hi]; exact h1, by show c.ρ i ≤ _; rw [hi]; exact h2⟩
  | bool =>
    obtain ⟨b, rfl⟩ := h
    refine VR.bool.2 ?_
    show Value.bool b = .bool (c.ρ i == 1)
    rw [hi]
    cases b <;> rfl

theorem Lf.rng_ok {l : Lf} {v : Value} (h : l.R v) : l.rng.1 ≤ valOf v ∧ valOf v ≤ l.rng.2 := by
  cases l with
  | int k => obtain ⟨n, rfl, hw⟩ := h; exact wf_rng hw
  | bool => obtain ⟨b, rfl⟩ := h; cases b <;> simp [Lf.rng, valOf]

theorem cellsV_ok {c : Cx} : ∀ {ls : List Lf} {vs : List Value} {i : Nat}, LfsR ls vs → (∀ j, j < vs.length → c.ρ (i + j) = valOf (vs.getD j undef)) → VRs c (cellsV ls i) vs
  | [], vs, i, h, _ => by have h : vs = [] := h; subst h; exact VRs.nil
  | l :: ls, vs, i, h, hv => by
    obtain ⟨v, r, rfl, h1, h2⟩ := h
    refine VRs.cons (Lf.v_ok h1 (by have := hv 0 (by simp); simpa using this)) (cellsV_ok h2 fun j hj => ?_)
    have := hv (j + 1) (by simpa using hj)
    rw [show i + 1 + j = i + (j + 1) by omega]
    simpa using this

/-- a parameter's shape -/
structure Sh where
  agg : Bool
  ls : List Lf

def shapeOf (P : Program) (t : TypeId) : Option Sh :=
  match P.underlying t with
  | some (.struct _) | some (.array _ _) => (flatT P 8 t).map fun l => ⟨true, l⟩
  | some (.int _) | some .bool => (flatT P 8 t).map fun l => ⟨false, l⟩
  | _ => none

def Sh.v (s : Sh) (i : Nat) : V := cond s.agg (.agg (cellsV s.ls i)) ((cellsV s.ls i).headD .bad)

def argsV : List Sh → Nat → List V
  | [], _ => []
  | s :: r, i => s.v i :: argsV r (i + s.ls.length)

noncomputable def argsRng : List Sh → List (Int × Int)
  | [] => []
  | s :: r => s.ls.map Lf.rng ++ argsRng r

theorem arg_open {r : Reach} {b0 : Nat} {t : TypeId} {v : Value} {d : DataW H} {ps : List MemPlace} {s : Sh} (hs : shapeOf P t = some s) (hval : Value.okWide P W r b0 t v) (hd : DataW.Trod enc P W base sp held t v d ps) :
    ∃ cs, LfsR s.ls cs ∧ ∀ (c : Cx) (i : Nat), VRs c (cellsV s.ls i) cs → VR c (s.v i) v := by
  obtain ⟨n, hn⟩ := hd
  unfold shapeOf at hs
  have agg : ∀ l, flatT P 8 t = some l → s = ⟨true, l⟩ → (∃ cs, v = .agg cs) → ∃ cs, LfsR s.ls cs ∧ ∀ (c : Cx) (i : Nat), VRs c (cellsV s.ls i) cs → VR c (s.v i) v := by
    rintro l hl rfl ⟨cs, rfl⟩
    exact ⟨cs.toList, (flatT_ok 8 n t l _ _ hl hn).1, fun c i h => VR.agg.2 ⟨cs, rfl, h⟩⟩
  have one : ∀ l, flatT P 8 t = some l → s = ⟨false, l⟩ → v.cells.toList = [v] → ∃ cs, LfsR s.ls cs ∧ ∀ (c : Cx) (i : Nat), VRs c (cellsV s.ls i) cs → VR c (s.v i) v := by
    rintro l hl rfl hv
    have h1 := (flatT_ok 8 n t l _ _ hl hn).1
    rw [hv] at h1
    refine ⟨[v], h1, fun c i h => ?_⟩
    cases l with
    | nil => have h1 : [v] = [] := h1; simp at h1
    | cons l ls =>
      obtain ⟨x, ys, e, h2, _⟩ := VRs.cons_iff.1 h
      simp at e
      rw [e.1]; exact h2
  split at hs
  · rename_i fs hu
    obtain ⟨l, h1, rfl⟩ := Option.map_eq_some_iff.1 hs
    simp only [Value.okWide, hu] at hval
    obtain ⟨cs, e, _⟩ := hval
    exact agg l h1 rfl ⟨cs, e⟩
  · rename_i m e hu
    obtain ⟨l, h1, rfl⟩ := Option.map_eq_some_iff.1 hs
    simp only [Value.okWide, hu] at hval
    obtain ⟨cs, e, _⟩ := hval
    exact agg l h1 rfl ⟨cs, e⟩
  · rename_i k hu
    obtain ⟨l, h1, rfl⟩ := Option.map_eq_some_iff.1 hs
    obtain ⟨m, rfl⟩ := okWide_int hu hval
    exact one l h1 rfl rfl
  · rename_i hu
    obtain ⟨l, h1, rfl⟩ := Option.map_eq_some_iff.1 hs
    obtain ⟨b, e, _⟩ := open_bool hu hval ⟨n, hn⟩
    subst e
    exact one l h1 rfl rfl
  · simp at hs

theorem args_open : ∀ {ts : List TypeId} {vs : List Value} {ds : List (DataW H)} {ps : List MemPlace} {shs : List Sh} {r : Reach} {b0 : Nat}, DataW.TrodAll enc P W base sp held ts vs ds ps →
    (∀ (j : Nat) t v, ts[j]? = some t → vs[j]? = some v → Value.okWide P W r b0 t v) → ts.mapM (shapeOf P) = some shs →
    ∃ cells : List Value, LfsR (shs.flatMap (·.ls)) cells ∧ ∀ (c : Cx) (i : Nat), (∀ j, j < cells.length → c.ρ (i + j) = valOf (cells.getD j undef)) → VRs c (argsV shs i) vs
  | [], [], [], _, shs, r, b0, h, _, hs => by
    simp at hs; subst hs
    exact ⟨[], rfl, fun c i _ => VRs.nil⟩
  | t :: ts, v :: vs, d :: ds, ps, shs, r, b0, h, hval, hs => by
    obtain ⟨p, q, h1, h2, rfl⟩ := h
    rw [List.mapM_cons] at hs
    cases ha : shapeOf P t with
    | none => simp [ha] at hs
    | some s =>
      rw [ha] at hs
      cases hb : ts.mapM (shapeOf P) with
      | none => simp [hb] at hs
      | some ss =>
        rw [hb] at hs
        have hs : some (s :: ss) = some shs := hs
        simp at hs; subst hs
        obtain ⟨cs, h3, h4⟩ := arg_open ha (hval 0 t v rfl rfl) h1
        obtain ⟨cells, h5, h6⟩ := args_open h2 (fun j t v ht hv => hval (j + 1) t v (by simpa using ht) (by simpa using hv)) hb
        have hlen := h3.length
        refine ⟨cs ++ cells, by simpa using h3.append h5, fun c i hi => VRs.cons (h4 c i (cellsV_ok h3 fun j hj => ?_)) (h6 c _ fun j hj => ?_)⟩
        · rw [hi j (by simp; omega)]
          congr 1
          simp [List.getD_eq_getElem?_getD, List.getElem?_append_left hj]
        · rw [show i + s.ls.length + j = i + (cs.length + j) by omega, hi (cs.length + j) (by simpa using hj)]
          congr 1
          simp [List.getD_eq_getElem?_getD, List.getElem?_append_right]
  | [], _ :: _, _, _, _, _, _, h, _, _ => by cases h
  | [], [], _ :: _, _, _, _, _, h, _, _ => by cases h
  | _ :: _, [], _, _, _, _, _, h, _, _ => by cases h
  | _ :: _, _ :: _, [], _, _, _, _, h, _, _ => by cases h

theorem rng_open : ∀ {ls : List Lf} {vs : List Value}, LfsR ls vs → ∀ i lo hi, (ls.map Lf.rng)[i]? = some (lo, hi) → lo ≤ valOf (vs.getD i undef) ∧ valOf (vs.getD i undef) ≤ hi
  | [], _, _, i, lo, hi, h => by simp at h
  | l :: ls, vs, h, i, lo, hi, hr => by
    obtain ⟨v, r, rfl, h1, h2⟩ := h
    cases i with
    | zero =>
      simp at hr
      have := Lf.rng_ok h1
      rw [hr] at this
      simpa using this
    | succ i =>
      have := rng_open h2 i lo hi (by simpa using hr)
      simpa using this

theorem argsRng_eq : ∀ (shs : List Sh), argsRng shs = (shs.flatMap (·.ls)).map Lf.rng
  | [] => rfl
  | s :: r => by simp [argsRng, argsRng_eq r]
end

/-- a law of plain arguments, out of one run of the evaluator -/
theorem law_calls {P : Program} (hP : Plain P) {kw : Kw} (hkw : ∀ ρ, KwOK P ρ kw) {it d : Nat} {f : FuncId} {fn : Func} {g : List (Nat × List V)} {shs : List Sh} (hsh : fn.params.toList.mapM (shapeOf P) = some shs)
    (h : allTrue (evFn P kw it d f (argsV shs 0) (mem0 g) ⟨[], argsRng shs⟩) = true)
    {H : Type} {enc : TypeId × Value → H} {W : World} {base : Nat} {args : Array Value} {ds : List (DataW H)} {ps : List MemPlace} (hval : ∀ (j : Nat) t v, fn.params[j]? = some t → args[j]? = some v → Value.okWide P W .any base t v)
    (hA : DataW.TrodAll enc P W 0 (fun _ => true) true fn.params.toList args.toList ds ps) (hw : ∀ ρ : Nat → Int, ∀ x ∈ g, x.1 < 4096 ∧ BlkR (cx0 ρ) W (x.1, 0) (.cells x.2 false false none)) :
    Calls P f args W (LawEnd W) := by
  obtain ⟨cells, h1, h2⟩ := args_open hA (fun j t v ht hv => hval j t v (by simpa using ht) (by simpa using hv)) hsh
  let ρ : Nat → Int := fun j => valOf (cells.getD j undef)
  have h3 : VRs (cx0 ρ) (argsV shs 0) args.toList := h2 (cx0 ρ) 0 fun j _ => by show valOf (cells.getD (0 + j) undef) = _; rw [Nat.zero_add]
  have hp : PcR ρ ⟨[], argsRng shs⟩ := ⟨fun c hc => by simp at hc, fun i lo hi hr => by
    have hr : (argsRng shs)[i]? = some (lo, hi) := hr
    rw [argsRng_eq] at hr
    exact rng_open h1 i lo hi hr⟩
  obtain ⟨m, q, he⟩ := allTrue_out ρ h
  refine (evFn_ok hP (hkw ρ) it d f _ (cx0 ρ) _ m W _ q _ args rfl (mem0_ok (hw ρ)) hp glob0 h3 he).2.mono fun e w' hR => ?_
  obtain ⟨c', z, rfl, s, hz, _⟩ := hR
  rw [VR.bool] at hz
  subst hz
  exact ⟨rfl, s.below mem0_wr⟩

end Go.Sy
