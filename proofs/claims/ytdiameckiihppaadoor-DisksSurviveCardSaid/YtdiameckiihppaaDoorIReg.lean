/-
  What is proved here: a region whose order is drawn, by a condition that each of its operations keeps; what single operations do.
  Conditions: none.
-/
import Derived.Test.YtdiameckiihppaaDoorQStore
namespace Go.Proofs.YtdiameckiihppaaDoor
open Go.Proofs Go.RowKit

theorem ready_iff {md : Region.Mode} {ops : Array Oper} {listed : Array Bool} {j : Nat} : j ∈ Region.ready md ops listed ↔
    listed.getD j true = false ∧ ∃ o, ops[j]? = some o ∧ ∀ e ∈ o.after, Region.binds md e = true → listed.getD e.on false = true := by
  unfold Region.ready
  rw [List.mem_filter, List.mem_range]
  constructor
  · rintro ⟨hj, h⟩
    rw [Bool.and_eq_true] at h
    obtain ⟨h1, h2⟩ := h
    refine ⟨by simpa using h1, ops[j], Array.getElem?_eq_getElem hj, fun e he hb => ?_⟩
    rw [Array.getElem?_eq_getElem hj] at h2
    simp only [Option.map_some, Option.getD_some, Array.all_eq_true_iff_forall_mem] at h2
    have := h2 e he
    rw [hb] at this
    simpa using this
  · rintro ⟨h1, o, ho, h2⟩
    have hj := (Array.getElem?_eq_some_iff.1 ho).1
    refine ⟨hj, ?_⟩
    rw [Bool.and_eq_true]
    refine ⟨by simp [h1], ?_⟩
    rw [ho]
    simp only [Option.map_some, Option.getD_some, Array.all_eq_true_iff_forall_mem]
    intro e he
    cases hb : Region.binds md e with
    | false => rfl
    | true => simpa using h2 e he hb

/-- edges go back in the text -/
def edgesBack (ops : Array Oper) : Bool := (List.range ops.size).all fun i => ((ops[i]?).map fun o => o.after.all fun e => !Region.binds .any e || decide (e.on < i)).getD false
theorem edgesBack_spec {ops : Array Oper} (h : edgesBack ops = true) {i : Nat} {o : Oper} (ho : ops[i]? = some o) {e : Edge} (he : e ∈ o.after) (hb : Region.binds .any e = true) : e.on < i := by
  have hi := (Array.getElem?_eq_some_iff.1 ho).1
  have h1 := List.all_eq_true.1 h i (List.mem_range.2 hi)
  rw [ho] at h1
  simp only [Option.map_some, Option.getD_some, Array.all_eq_true_iff_forall_mem] at h1
  have := h1 e he
  rw [hb] at this
  simpa using this

theorem region_inv {P : Program} {ops : Array Oper} {Q : Exit → Act → World → Prop} {id : Nat} {a0 : Act} {w0 : World} (hm : P.follows .mixedOrders = true) (hback : edgesBack ops = true)
    (I : (Nat → Bool) → Act → World → Prop) (h0 : I (fun _ => false) a0 w0.drew)
    (hstep : ∀ (b : Nat → Bool) (a : Act) (w : World) (i : Nat) (o : Oper), ops[i]? = some o → b i = false → (∀ e ∈ o.after, Region.binds .any e = true → b e.on = true) → I b a w → wpOp P ops Q i (fun a' w' => I (fun j => if j = i then true else b j) a' w') a w)
    (hend : ∀ (b : Nat → Bool) (a : Act) (w : World), (∀ i, i < ops.size → b i = true) → I b a w → Q .normal a w) : (Code.region id ops true).wp P Q a0 w0 := by
  refine wp_region_any hm ?_
  have fin : ∀ (listed : Array Bool) (a : Act) (w : World), listed.size = ops.size → I (fun j => listed.getD j false) a w → Region.ready .any ops listed = [] → Q .normal a w := by
    intro listed a w hs hI hr
    refine hend _ a w ?_ hI
    intro j
    induction j using Nat.strongRecOn with
    | ind j ih =>
      intro hj
      cases hl : listed.getD j false with
      | true => rfl
      | false =>
        exfalso
        have : j ∈ Region.ready .any ops listed := by
          rw [ready_iff]
          refine ⟨?_, ops[j], Array.getElem?_eq_getElem hj, fun e he hb => ?_⟩
          · have hd : ∀ d, listed.getD j d = listed[j]'(by omega) := fun d => by simp [Array.getD, hs, hj]
            rw [hd] at hl ⊢; exact hl
          · have hlt := edgesBack_spec hback (Array.getElem?_eq_getElem hj) he hb
            exact ih e.on hlt (by omega)
        rw [hr] at this
        simp at this
  have main : ∀ (fuel : Nat) (listed : Array Bool) (a : Act) (w : World), listed.size = ops.size → listed.count true + fuel = ops.size → I (fun j => listed.getD j false) a w → wpAny P .any ops Q fuel listed a w := by
    intro fuel
    induction fuel with
    | zero =>
      intro listed a w hs hc hI
      have hr : Region.ready .any ops listed = [] := by
        rw [List.eq_nil_iff_forall_not_mem]
        intro j hj
        obtain ⟨hnl, o, ho, _⟩ := ready_iff.1 hj
        have hjn : j < listed.size := by rw [hs]; exact (Array.getElem?_eq_some_iff.1 ho).1
        have : listed.count true = listed.size := by rw [hs]; omega
        have := Array.count_eq_size.1 this listed[j] (Array.getElem_mem _)
        rw [show listed.getD j true = listed[j] by simp [Array.getD, hjn], ← this] at hnl
        simp at hnl
      exact ⟨hr, fin listed a w hs hI hr⟩
    | succ fuel ih =>
      intro listed a w hs hc hI
      refine ⟨fin listed a w hs hI, fun i hi => ?_⟩
      obtain ⟨hnl, o, ho, he⟩ := ready_iff.1 hi
      have hil : i < listed.size := by rw [hs]; exact (Array.getElem?_eq_some_iff.1 ho).1
      have hli : listed[i] = false := by rw [← hnl]; simp [Array.getD, hil]
      refine wpOp_mono (fun a' w' h => ih (listed.setIfInBounds i true) a' w' (by simpa using hs) ?_ ?_) (hstep (fun j => listed.getD j false) a w i o ho (by simp [Array.getD, hil, hli]) he hI)
      · rw [Array.setIfInBounds, dif_pos hil, Array.count_set hil, hli]
        simp
        omega
      · have e : (fun j => if j = i then true else listed.getD j false) = fun j => (listed.setIfInBounds i true).getD j false := by
          funext j
          by_cases hj : j = i
          · subst hj; simp [Array.getD, hil]
          · simp only [if_neg hj, Array.getD_eq_getD_getElem?]
            rw [Array.getElem?_setIfInBounds_ne (Ne.symm hj)]
        rwa [e] at h
  refine main ops.size _ a0 _ (by simp) (by rw [Array.count_replicate]; simp) ?_
  have e : (fun j => (Array.replicate ops.size false).getD j false) = fun _ => false := by
    funext j
    simp only [Array.getD_eq_getD_getElem?, Array.getElem?_replicate]
    split <;> rfl
  rw [e]
  exact h0

/-- an operation without a guard -/
theorem wpOp_plain {P : Program} {ops : Array Oper} {Q : Exit → Act → World → Prop} {i : Nat} {K : Act → World → Prop} {a : Act} {w : World} {o : Oper} (ho : ops[i]? = some o) (hg : o.guard = none) (h : o.wp P a w K Q) : wpOp P ops Q i K a w := by
  unfold wpOp
  simp only [ho]
  have hw : Region.wanted o (yielded ops a.tmps) = true := by simp [Region.wanted, hg]
  rw [if_pos hw]
  exact .inl h

section
variable {P : Program} {o : Oper} {a : Act} {w : World} {K : Act → World → Prop} {Q : Exit → Act → World → Prop}
theorem op_move {x : Operand} (ho : o.op = .move x ∨ o.op = .assign x) (h : K (a.put o.dst (a.eval x)) w) : o.wp P a w K Q := by
  unfold Oper.wp execOp
  rcases ho with ho | ho <;> (simp only [ho]; exact h)
theorem op_iface {t : TypeId} {x : Operand} {v : Value} (ho : o.op = .makeInterface t x) (hv : (Instr.makeInterface t (a.eval x)).run P w = .ok v w) (h : K (a.put o.dst v) w) : o.wp P a w K Q := by
  unfold Oper.wp execOp
  simp only [ho, Sem.run_bind, hv, Result.andThen_ok, Sem.run_pure, Oper.upon_value]
  exact h
theorem op_load {p : Operand} {ty : TypeId} {v : Value} (ho : o.op = .load ty p) (hv : (Instr.loadAt ty (a.eval p)).run P w = .ok v w) (h : K (a.put o.dst v) w) : o.wp P a w K Q := by
  unfold Oper.wp execOp
  simp only [ho, Sem.run_bind, hv, Result.andThen_ok, Sem.run_pure, Oper.upon_value]
  exact h
theorem op_alloc {t : TypeId} {v : Value} {w' : World} (ho : o.op = .alloc t) (hv : (Instr.alloc t true (.tuple #[])).run P w = .ok v w') (h : K (a.put o.dst v) w') : o.wp P a w K Q := by
  unfold Oper.wp execOp
  simp only [ho, Sem.run_bind, hv, Result.andThen_ok, Sem.run_pure, Oper.upon_value]
  exact h
theorem op_store {p x : Operand} {ty : TypeId} {w' : World} (ho : o.op = .store ty p x) (hv : (Instr.storeAt ty (a.eval p) (a.eval x)).run P w = .ok () w') (h : K (a.put o.dst undef) w') : o.wp P a w K Q := by
  unfold Oper.wp execOp
  simp only [ho, Sem.run_bind, hv, Result.andThen_ok, Sem.run_pure, Oper.upon_skip]
  exact h
theorem op_any {n : Next} {w' : World} (hv : (execOp a.eval o).run P w = .ok n w') (h : o.upon P a K Q (.ok n w')) : o.wp P a w K Q := by
  unfold Oper.wp
  rw [hv]
  exact h
end

/-- what a region leaves alone -/
structure Fr (ds : List Nat) (a0 a : Act) : Prop where
  size : a.tmps.size = a0.tmps.size
  defers : a.defers = a0.defers
  out : ∀ s, s ∉ ds → a.tmps[s]? = a0.tmps[s]?
theorem Fr.refl (ds : List Nat) (a : Act) : Fr ds a a := ⟨rfl, rfl, fun _ _ => rfl⟩
theorem Fr.put {ds : List Nat} {a0 a : Act} (h : Fr ds a0 a) {d : Nat} (hd : d ∈ ds) (v : Value) : Fr ds a0 (a.put (some d) v) :=
  ⟨by show (a.tmps.setIfInBounds d v).size = _; simpa using h.size, h.defers, fun s hs => by
    show (a.tmps.setIfInBounds d v)[s]? = _
    rw [Array.getElem?_setIfInBounds_ne (fun e => hs (by rw [← e]; exact hd))]
    exact h.out s hs⟩
theorem Fr.put0 {ds : List Nat} {a0 a : Act} (h : Fr ds a0 a) (v : Value) : Fr ds a0 (a.put none v) := h
theorem Fr.eval {ds : List Nat} {a0 a : Act} (h : Fr ds a0 a) {t : Nat} (ht : t ∉ ds) : a.eval (.tmp t) = a0.eval (.tmp t) := by
  show a.tmps.getD t undef = a0.tmps.getD t undef
  simp only [Array.getD_eq_getD_getElem?, h.out t ht]
theorem eval_same {a : Act} {d : Nat} {v : Value} (h : d < a.tmps.size) : (a.put (some d) v).eval (.tmp d) = v := by
  show (a.tmps.setIfInBounds d v).getD d undef = v
  simp [Array.getD_eq_getD_getElem?, h]
theorem eval_other {a : Act} {d t : Nat} {v : Value} (h : t ≠ d) : (a.put (some d) v).eval (.tmp t) = a.eval (.tmp t) := by
  show (a.tmps.setIfInBounds d v).getD t undef = a.tmps.getD t undef
  simp only [Array.getD_eq_getD_getElem?]
  rw [Array.getElem?_setIfInBounds_ne (Ne.symm h)]
/-- an act out of its frame -/
theorem Fr.act {ds : List Nat} {a0 a : Act} (h : Fr ds a0 a) : a = ⟨ds.foldl (fun t d => t.setIfInBounds d (a.eval (.tmp d))) a0.tmps, a0.defers⟩ := by
  have key : ∀ (ds : List Nat) (f : Nat → Value) (t : Array Value) (s : Nat), (ds.foldl (fun t d => t.setIfInBounds d (f d)) t)[s]? = if s ∈ ds ∧ s < t.size then some (f s) else t[s]? := by
    intro ds f
    induction ds with
    | nil => intro t s; simp
    | cons d ds ih =>
      intro t s
      rw [List.foldl_cons, ih]
      simp only [Array.size_setIfInBounds, List.mem_cons, Array.getElem?_setIfInBounds]
      by_cases h1 : s ∈ ds
      · by_cases h2 : s < t.size
        · simp [h1, h2]
        · simp only [h1, h2, and_false, if_false]
          by_cases e : d = s
          · subst e
            rw [if_pos rfl, if_neg h2]
            exact (Array.getElem?_eq_none (by omega)).symm
          · rw [if_neg e]
      · by_cases h2 : d = s
        · subst h2
          by_cases h3 : d < t.size
          · simp [h3]
          · simp [h3]
        · simp [h1, h2, Ne.symm h2]
  have e : a.tmps = ds.foldl (fun t d => t.setIfInBounds d (a.eval (.tmp d))) a0.tmps := by
    apply Array.ext_getElem?
    intro s
    rw [key ds (fun d => a.eval (.tmp d)) a0.tmps s]
    split
    · rename_i hs
      have hlt : s < a.tmps.size := by rw [h.size]; exact hs.2
      show a.tmps[s]? = some (a.tmps.getD s undef)
      rw [Array.getElem?_eq_getElem hlt]
      simp [Array.getD, hlt]
    · rename_i hs
      by_cases h2 : s ∈ ds
      · have h3 : ¬ s < a0.tmps.size := fun h3 => hs ⟨h2, h3⟩
        rw [Array.getElem?_eq_none (by rw [h.size]; omega), Array.getElem?_eq_none (by omega)]
      · exact h.out s h2
  cases a
  cases a0
  simp only [Act.mk.injEq]
  exact ⟨e, h.defers⟩
theorem puts_eq (f : Nat → Value) : ∀ (ds : List Nat) (a0 : Act), ds.foldl (fun a' d => a'.put (some d) (f d)) a0 = ⟨ds.foldl (fun t d => t.setIfInBounds d (f d)) a0.tmps, a0.defers⟩
  | [], a0 => rfl
  | d :: ds, a0 => by rw [List.foldl_cons, puts_eq f ds, List.foldl_cons]; rfl
theorem Fr.puts {ds : List Nat} {a0 a : Act} (h : Fr ds a0 a) : a = ds.foldl (fun a' d => a'.put (some d) (a.eval (.tmp d))) a0 := by
  rw [puts_eq]
  exact h.act
end Go.Proofs.YtdiameckiihppaaDoor
