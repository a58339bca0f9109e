/-
  What is proved here: an operation that writes, or calls, does what the model's does.
  Conditions: none.
-/
import Derived.Test.YtcipfcbaclfnhaaSyOp
namespace Go.Sy

/-- what a call may be of: a function with a body -/
def Callable (P : Program) (f : FuncId) : Prop := ∃ fn, P.funcs[f]? = some fn ∧ fn.body.isNone = false ∧ (fn.name == "runtime.NumGoroutine") = false

/-- a call comes back -/
def CallOK (P : Program) (f : FuncId) (args : Array Value) (c : Cx) (m : Mem) (w : World) (m' : Mem) (v : V) (q : Pc) : Prop :=
  Callable P f ∧ Calls P f args w fun e w' => ∃ c' z, e = .returned z ∧ Step c m w c' m' w' ∧ VR c' v z ∧ PcR c.ρ q

/-- the evaluator's calls are the model's -/
def CallsOK (P : Program) (ρ : Nat → Int) (cf : FuncId → List V → M V) : Prop :=
  ∀ (f : FuncId) (l : List V) (c : Cx) (m m' : Mem) (w : World) (p q : Pc) (v : V) (args : Array Value), c.ρ = ρ → MemR c m w → PcR c.ρ p → GlobR c → VRs c l args.toList → (cf f l).gives c.ρ m p v m' q → CallOK P f args c m w m' v q

section ops
variable {P : Program} {c : Cx} {m m' : Mem} {w : World} {p q : Pc} {n : Nat} {env : Env} {a : Act}

theorem run_callFunc {f : FuncId} (h : Callable P f) (args : Array Value) : (callFunc f args).run P w = .ok (.enter f args) w := by
  obtain ⟨fn, h1, h2, h3⟩ := h
  have h3 : fn.name ≠ "runtime.NumGoroutine" := by simpa using h3
  have h2 : fn.body ≠ none := by cases hb : fn.body <;> simp [hb] at h2 ⊢
  simp [callFunc, h1, h2, h3]

/-- what an operation that writes, or calls, does -/
def EffR (P : Program) (c : Cx) (m : Mem) (w : World) (m' : Mem) (v : V) (q : Pc) (o : Oper) (a : Act) : Prop :=
  ∀ (K : Act → World → Prop) (Q : Exit → Act → World → Prop), (∀ c' w' z, PcR c.ρ q → Step c m w c' m' w' → VR c' v z → K (a.put o.dst z) w') → o.wp P a w K Q

theorem EffR.of_value {o : Oper} {v : V} {s : Sem Value} (hq : PcR c.ρ q) (h : EfOK P c m w m' v s) (he : execOp a.eval o = (do pure (.value (← s)))) : EffR P c m w m' v q o a := by
  obtain ⟨c', w', z, h1, h2, h3⟩ := h
  intro K Q hK
  unfold Oper.wp
  rw [he, Sem.run_bind, h2, Result.andThen_ok, Sem.run_pure]
  exact hK c' w' z hq h1 h3

theorem EffR.of_unit {o : Oper} {w' : World} {s : Sem Unit} (hq : PcR c.ρ q) (h : Step c m w c m' w') (hr : s.run P w = .ok () w') (he : execOp a.eval o = (do s; pure .skip)) : EffR P c m w m' undefV q o a := by
  intro K Q hK
  unfold Oper.wp
  rw [he, Sem.run_bind, hr, Result.andThen_ok, Sem.run_pure]
  exact hK c w' undef hq h VR.undef

theorem EffR.of_call {o : Oper} {f : FuncId} {args : Array Value} {v : V} (h : CallOK P f args c m w m' v q) (he : (execOp a.eval o).run P w = .ok (.enter f args) w) : EffR P c m w m' v q o a := by
  intro K Q hK
  unfold Oper.wp
  rw [he, Oper.upon_enter]
  refine Calls.mono h.2 fun e w' hR => ?_
  obtain ⟨c', z, rfl, h1, h2, h3⟩ := hR
  exact hK c' w' z h3 h1 h2

theorem skipV_gives {x : M Unit} {v : V} (h : (skipV x).gives c.ρ m p v m' q) : v = undefV ∧ x.gives c.ρ m p () m' q := by
  obtain ⟨u, m1, p1, h1, h2⟩ := M.gives_bnd h
  obtain ⟨rfl, rfl, rfl⟩ := M.gives_pure h2
  exact ⟨rfl, h1⟩

theorem methodOf_some {t : TypeId} {name : String} {r : FuncId × Bool} (h : methodOf P t name = some r) : ∃ i mt, P.info? t = some i ∧ i.methods.find? (·.name == name) = some mt ∧ mt.path.toList = [] ∧ mt.func = some r := by
  unfold methodOf at h
  split at h
  · simp at h
  · rename_i i hi
    split at h
    · simp at h
    · rename_i mt hmt
      split at h
      · rename_i hp; exact ⟨i, mt, hi, hmt, hp, h⟩
      · simp at h

theorem recv_ok (hm : MemR c m w) (hp : PcR c.ρ p) {t : TypeId} {pr : Bool} {v y : V} {x : Value} {wr : Option String} (hv : VR c v x) (h : (recvR P t v pr).gives c.ρ m p y q) :
    q = p ∧ ∃ z, (receiverAt t (.val x) pr wr).run P w = .ok z w ∧ VR c y z := by
  unfold recvR at h
  cases he : ptrElem P t with
  | none =>
    rw [he] at h
    obtain ⟨h1, h2⟩ := R.gives_if (show (selB (andB (hasT P t) (notB pr)) (R.pure v) (R.fail "method a pointers")).gives c.ρ m p y q from h)
    obtain ⟨rfl, rfl⟩ := R.gives_pure h2
    obtain ⟨h3, h4⟩ := andB_iff.1 h1
    obtain ⟨d, hu⟩ := hasT_iff h3
    cases pr with
    | true => exact absurd h4 (by simp [notB])
    | false =>
      refine ⟨rfl, x, ?_, hv⟩
      have hnp : ∀ e, d ≠ .pointer e := by
        rintro e rfl
        unfold ptrElem at he
        rw [hu] at he
        simp at he
      cases d <;> first | exact absurd rfl (hnp _) | simp [receiverAt, run_und hu, Place.get]
  | some el =>
    rw [he] at h
    have hu := ptrElem_some he
    have h : (selB pr (R.pure v) (loadPtr P el v)).gives c.ρ m p y q := h
    cases pr with
    | true =>
      obtain ⟨rfl, rfl⟩ := R.gives_pure (show (R.pure v).gives c.ρ m p y q from h)
      exact ⟨rfl, x, by simp [receiverAt, run_und hu, Place.get], hv⟩
    | false =>
      obtain ⟨rfl, i, o, rfl, z, h1, h2⟩ := loadPtr_ok hm hp hv (show (loadPtr P el v).gives c.ρ m p y q from h)
      refine ⟨rfl, z, ?_, h2⟩
      cases wr with
      | none => simp [receiverAt, run_und hu, Place.get, asAddr, h1]
      | some s =>
        have hw : (Builtin.ssaWrapNilChk_ #[t] t #[.pointer (some (c.ad i o)), strVal "", strVal s]).run P w = .ok (.pointer (some (c.ad i o))) w := rfl
        simp [receiverAt, run_und hu, Place.get, asAddr, h1, hw]

theorem method_ok (hm : MemR c m w) (hp : PcR c.ρ p) {t : TypeId} {name : String} {f : FuncId} {pr : Bool} {v y : V} {x : Value} (k : Nat) (hmo : methodOf P t name = some (f, pr)) (hv : VR c v x) (h : (recvR P t v pr).gives c.ρ m p y q) :
    q = p ∧ ∃ z, (method (k + 1) t x name).run P w = .ok (f, z) w ∧ VR c y z := by
  obtain ⟨i, mt, hi, hf, hpa, hfn⟩ := methodOf_some hmo
  obtain ⟨rfl, z, h1, h2⟩ := recv_ok (wr := if mt.path.isEmpty then some ((name.splitOn ".").getLastD name) else none) hm hp hv h
  refine ⟨rfl, z, ?_, h2⟩
  simp only [method, Sem.run_bind, run_info hi, Result.andThen_ok, hf, hpa, follow, Sem.run_pure, hfn, h1]

theorem invoke_ok (hm : MemR c m w) (hp : PcR c.ρ p) (hg : GlobR c) {cf : FuncId → List V → M V} (hcf : CallsOK P c.ρ cf) {name : String} {rv v : V} {R' : Value} {l : List V} {args : Array Value} (hr : VR c rv R') (hl : VRs c l args.toList)
    (h : (invokeM P cf name rv l).gives c.ρ m p v m' q) : ∃ f args', CallOK P f args' c m w m' v q ∧ (callMethod R' name args).run P w = .ok (.enter f args') w := by
  obtain ⟨t, y, rfl, h1⟩ := onIfaceM_gives (s := "a method of nil") (show (onIface rv (fun t v => (Option.rec (M.fail "no method") (fun a => (recvR P t v a.2).thn fun x => cf a.1 (x :: l)) (methodOf P t name) : M V)) (M.fail "a method of nil")).gives c.ρ m p v m' q from h)
  obtain ⟨Y, rfl, hy⟩ := VR.iface.1 hr
  cases hmo : methodOf P t name with
  | none => simp only [hmo] at h1; exact (M.gives_fail h1).elim
  | some r =>
    obtain ⟨f, pr⟩ := r
    simp only [hmo] at h1
    obtain ⟨x, p1, h2, h3⟩ := R.gives_thn (show ((recvR P t y pr).thn fun x => cf f (x :: l)).gives c.ρ m p v m' q from h1)
    obtain ⟨k, hk⟩ : ∃ k, P.types.size + Made.depth = k + 1 := ⟨P.types.size + 99, rfl⟩
    obtain ⟨rfl, z, h4, h5⟩ := method_ok (w := w) hm hp k hmo hy h2
    have hargs : VRs c (x :: l) (#[z] ++ args).toList := by
      rw [Array.toList_append]; exact VRs.cons h5 hl
    have h7 := hcf f (x :: l) c m m' w p1 q v (#[z] ++ args) rfl hm hp hg hargs h3
    refine ⟨f, #[z] ++ args, h7, ?_⟩
    rw [← hk] at h4
    have hprog : (program).run P w = .ok P w := rfl
    simp only [callMethod, Sem.run_bind, hprog, Result.andThen_ok, h4, run_callFunc h7.1]
end ops

end Go.Sy
