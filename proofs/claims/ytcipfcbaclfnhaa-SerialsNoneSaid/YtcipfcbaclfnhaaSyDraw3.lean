/-
  What is proved here: an operation looks at its own slots alone; what an operation does, whatever the order.
  Conditions: none.
-/
import Derived.Test.YtcipfcbaclfnhaaSyRun2
import Derived.Test.YtcipfcbaclfnhaaSyDraw2
namespace Go.Sy

section congr
variable {env env' : Env}

theorem opd_congr {x : Operand} (h : ∀ t, x = .tmp t → env' t = env t) : opd x env' = opd x env := by
  cases x with
  | tmp t => exact h t rfl
  | _ => rfl

theorem opds_congr : ∀ {l : List Operand}, (∀ t, Operand.tmp t ∈ l → env' t = env t) → opds l env' = opds l env
  | [], _ => rfl
  | x :: l, h => by
    show opd x env' :: opds l env' = opd x env :: opds l env
    rw [opd_congr (fun t ht => h t (ht ▸ .head _)), opds_congr (fun t ht => h t (.tail _ ht))]

theorem partsV_congr : ∀ {l : List (Nat × Operand)}, (∀ t, Operand.tmp t ∈ l.map (·.2) → env' t = env t) → partsV l env' = partsV l env
  | [], _ => rfl
  | x :: l, h => by
    show (x.1, opd x.2 env') :: partsV l env' = (x.1, opd x.2 env) :: partsV l env
    rw [opd_congr (fun t ht => h t (by rw [← ht]; exact .head _)), partsV_congr (fun t ht => h t (.tail _ ht))]

theorem optV_congr {x : Option Operand} (h : ∀ t, x = some (.tmp t) → env' t = env t) : optV x env' = optV x env := by
  cases x with
  | none => rfl
  | some x =>
    show some (opd x env') = some (opd x env)
    rw [opd_congr (fun t ht => h t (by rw [ht]))]

theorem evKind_congr {P : Program} {cf : FuncId → List V → M V} {op : Op} (h : ∀ t, Operand.tmp t ∈ op.operands → env' t = env t) : evKind op P cf env' = evKind op P cf env := by
  have o1 : ∀ {x : Operand}, x ∈ op.operands → opd x env' = opd x env := fun hx => opd_congr fun t ht => h t (ht ▸ hx)
  cases op with
  | move x =>
    show hMove x P cf env' = hMove x P cf env
    simp only [hMove, o1 (x := x) (by simp [Op.operands])]
  | assign x =>
    show hMove x P cf env' = hMove x P cf env
    simp only [hMove, o1 (x := x) (by simp [Op.operands])]
  | pick c a b =>
    show hPick c a b P cf env' = hPick c a b P cf env
    simp only [hPick, o1 (x := c) (by simp [Op.operands]), o1 (x := a) (by simp [Op.operands]), o1 (x := b) (by simp [Op.operands])]
  | alloc t => rfl
  | box t x =>
    show hBox t x P cf env' = hBox t x P cf env
    simp only [hBox, o1 (x := x) (by simp [Op.operands])]
  | insert t m k x =>
    show hUpdate t m k x P cf env' = hUpdate t m k x P cf env
    simp only [hUpdate, o1 (x := m) (by simp [Op.operands]), o1 (x := k) (by simp [Op.operands]), o1 (x := x) (by simp [Op.operands])]
  | load t a =>
    show hLoad t a P cf env' = hLoad t a P cf env
    simp only [hLoad, o1 (x := a) (by simp [Op.operands])]
  | store t a x =>
    show hStore t a x P cf env' = hStore t a x P cf env
    simp only [hStore, o1 (x := a) (by simp [Op.operands]), o1 (x := x) (by simp [Op.operands])]
  | nilCheck x =>
    show hNilCheck x P cf env' = hNilCheck x P cf env
    simp only [hNilCheck, o1 (x := x) (by simp [Op.operands])]
  | binOp op t x y u =>
    show hBin op t x y u P cf env' = hBin op t x y u P cf env
    simp only [hBin, o1 (x := x) (by simp [Op.operands]), o1 (x := y) (by simp [Op.operands])]
  | unOp op t x =>
    show hUn op t x P cf env' = hUn op t x P cf env
    simp only [hUn, o1 (x := x) (by simp [Op.operands])]
  | convert s d x =>
    show hConv s d x P cf env' = hConv s d x P cf env
    simp only [hConv, o1 (x := x) (by simp [Op.operands])]
  | makeInterface t x =>
    show hIface t x P cf env' = hIface t x P cf env
    simp only [hIface, o1 (x := x) (by simp [Op.operands])]
  | makeSlice t l c =>
    show hMakeSlice t l c P cf env' = hMakeSlice t l c P cf env
    simp only [hMakeSlice, o1 (x := l) (by simp [Op.operands]), o1 (x := c) (by simp [Op.operands])]
  | fieldAddr t x f =>
    show hFieldAddr t x f P cf env' = hFieldAddr t x f P cf env
    simp only [hFieldAddr, o1 (x := x) (by simp [Op.operands])]
  | field t x f =>
    show hField t x f P cf env' = hField t x f P cf env
    simp only [hField, o1 (x := x) (by simp [Op.operands])]
  | indexAddr t x i =>
    show hIndexAddr t x i P cf env' = hIndexAddr t x i P cf env
    simp only [hIndexAddr, o1 (x := x) (by simp [Op.operands]), o1 (x := i) (by simp [Op.operands])]
  | index t x i =>
    show hIndex t x i P cf env' = hIndex t x i P cf env
    simp only [hIndex, o1 (x := x) (by simp [Op.operands]), o1 (x := i) (by simp [Op.operands])]
  | lookup t x i ok =>
    show hLookup t x i ok P cf env' = hLookup t x i ok P cf env
    simp only [hLookup, o1 (x := x) (by simp [Op.operands]), o1 (x := i) (by simp [Op.operands])]
  | mapUpdate t m k x =>
    show hUpdate t m k x P cf env' = hUpdate t m k x P cf env
    simp only [hUpdate, o1 (x := m) (by simp [Op.operands]), o1 (x := k) (by simp [Op.operands]), o1 (x := x) (by simp [Op.operands])]
  | mapEntry t m k =>
    show hEntry t m k P cf env' = hEntry t m k P cf env
    simp only [hEntry, o1 (x := m) (by simp [Op.operands]), o1 (x := k) (by simp [Op.operands])]
  | entryStore t m s x =>
    show hEntStore t m s x P cf env' = hEntStore t m s x P cf env
    simp only [hEntStore, o1 (x := m) (by simp [Op.operands]), o1 (x := s) (by simp [Op.operands]), o1 (x := x) (by simp [Op.operands])]
  | typeAssert x t u ok =>
    show hAssert x t u ok P cf env' = hAssert x t u ok P cf env
    simp only [hAssert, o1 (x := x) (by simp [Op.operands])]
  | extract x i =>
    show hExtract x i P cf env' = hExtract x i P cf env
    simp only [hExtract, o1 (x := x) (by simp [Op.operands])]
  | build t ps =>
    show hBuild t ps P cf env' = hBuild t ps P cf env
    simp only [hBuild]
    rw [partsV_congr (fun t ht => h t (by simpa [Op.operands] using ht))]
  | buildSlice t n ps =>
    show hBuildSlice t n ps P cf env' = hBuildSlice t n ps P cf env
    simp only [hBuildSlice]
    rw [partsV_congr (fun t ht => h t (by simpa [Op.operands] using ht))]
  | makeFunc fn a b =>
    show hFunc fn a b P cf env' = hFunc fn a b P cf env
    simp only [hFunc]
    rw [opds_congr (l := a.toList) (fun t ht => h t (by simp at ht; simp [Op.operands, ht])), opds_congr (l := b.toList) (fun t ht => h t (by simp at ht; simp [Op.operands, ht]))]
  | makeMap t r =>
    cases r with
    | none => rfl
    | some x =>
      show hMakeMap t (some x) P cf env' = hMakeMap t (some x) P cf env
      simp only [hMakeMap, o1 (x := x) (by simp [Op.operands])]
  | slice t x l u m =>
    show hSlice t x l u m P cf env' = hSlice t x l u m P cf env
    simp only [hSlice, o1 (x := x) (by simp [Op.operands])]
    rw [optV_congr (x := l) (fun t ht => h t (by simp [Op.operands, ht])), optV_congr (x := u) (fun t ht => h t (by simp [Op.operands, ht])), optV_congr (x := m) (fun t ht => h t (by simp [Op.operands, ht]))]
  | call c =>
    have ha : opds c.args.toList env' = opds c.args.toList env := opds_congr fun t ht => h t (by
      simp at ht
      simp [Op.operands, Call.operands, ht])
    show hCall c P cf env' = hCall c P cf env
    obtain ⟨ce, args, ts⟩ := c
    cases ce with
    | value f =>
      show Kd.ef (callV P cf (opd f env') (opds args.toList env')) = Kd.ef (callV P cf (opd f env) (opds args.toList env))
      rw [ha, o1 (x := f) (by simp [Op.operands, Call.operands])]
    | invoke r nm =>
      show Kd.ef (invokeM P cf nm (opd r env') (opds args.toList env')) = Kd.ef (invokeM P cf nm (opd r env) (opds args.toList env))
      rw [ha, o1 (x := r) (by simp [Op.operands, Call.operands])]
    | builtin b =>
      have ha : opds args.toList env' = opds args.toList env := ha
      show hBuiltin b ts args P cf env' = hBuiltin b ts args P cf env
      cases b <;> (first | rfl | (show hLen ts args P cf env' = hLen ts args P cf env; simp only [hLen, ha]) | (show hCap ts args P cf env' = hCap ts args P cf env; simp only [hCap, ha]) | (show hMin _ args P cf env' = hMin _ args P cf env; simp only [hMin, ha]) | (show hAppend ts args P cf env' = hAppend ts args P cf env; simp only [hAppend, ha]) | (show hCopy ts args P cf env' = hCopy ts args P cf env; simp only [hCopy, ha]) | (show hDelete ts args P cf env' = hDelete ts args P cf env; simp only [hDelete, ha]))
  | _ => rfl
end congr

/-! ### what an operation does, whatever the order -/

section does
variable {P : Program} {ρ : Nat → Int} {ops : Array Oper} {n : Nat} {o : Oper} {env : Env}

theorem mem_looks {t : Nat} (h : Operand.tmp t ∈ o.op.operands) : t ∈ looks ops o := by
  unfold looks tmpsOf
  refine List.mem_append.2 (.inl (List.mem_filterMap.2 ⟨.tmp t, by simpa using h, rfl⟩))

/-- the slots that an operation looks at stand for the frame's -/
structure EnvL (c : Cx) (n : Nat) (ops : Array Oper) (o : Oper) (env : Env) (a : Act) : Prop where
  size : a.tmps.size = n
  slot : ∀ t ∈ looks ops o, VR c (env t) (a.tmps.getD t undef)
  glob : GlobR c

def lookEnv (ops : Array Oper) (o : Oper) (env : Env) : Env := fun t => if t ∈ looks ops o then env t else .bad

theorem EnvL.full {c : Cx} {a : Act} (h : EnvL c n ops o env a) : EnvR c n (lookEnv ops o env) a :=
  ⟨h.size, fun j => by
    unfold lookEnv
    split
    · rename_i hj; exact h.slot j hj
    · exact VR.bad, h.glob⟩

theorem look_kind {cf : FuncId → List V → M V} : evKind o.op P cf (lookEnv ops o env) = evKind o.op P cf env :=
  evKind_congr fun _ ht => if_pos (mem_looks ht)

theorem look_guard {g : Nat × Bool} (hg : o.guard = some g) : guardR ops g n (lookEnv ops o env) = guardR ops g n env := by
  unfold guardR
  cases hs : guardSlot ops g.1 with
  | none => rfl
  | some d =>
    have hd : d ∈ looks ops o := by
      unfold looks
      rw [hg]
      exact List.mem_append.2 (.inr (by simp [hs]))
    show selB (Nat.blt d n) (guardV (lookEnv ops o env d) g.2) (R.fail "guard") = selB (Nat.blt d n) (guardV (env d) g.2) (R.fail "guard")
    rw [show lookEnv ops o env d = env d from if_pos hd]

/-- from the memory 'M' on to 'M'', the operation's value standing for 'v' -/
def Does (P : Program) (ρ : Nat → Int) (ops : Array Oper) (n : Nat) (o : Oper) (env : Env) (u : Mem) (v : V) (u' : Mem) : Prop :=
  ∀ ⦃c : Cx⦄ ⦃w : World⦄ ⦃a : Act⦄, c.ρ = ρ → MemR c u w → EnvL c n ops o env a → ∀ (K : Act → World → Prop) (Q : Exit → Act → World → Prop),
    (∀ c' w' z, Step c u w c' u' w' → VR c' v z → K (a.put o.dst z) w') →
      if Region.wanted o (yielded ops a.tmps) then o.wp P a w K Q ∨ (o.asks P a w ∧ LetsOut Q) else K (a.put o.dst undef) w

theorem guardO_ok {m : Mem} {p q : Pc} {b : Bool} (hp : PcR ρ p) (h : (guardO o.guard (fun g => guardR ops g n env)).gives ρ m p b q) {c : Cx} {a : Act} (hc : c.ρ = ρ) (he : EnvL c n ops o env a) :
    Region.wanted o (yielded ops a.tmps) = b := by
  subst hc
  cases hg : o.guard with
  | none =>
    rw [hg] at h
    obtain ⟨rfl, rfl⟩ := R.gives_pure (show (R.pure true).gives c.ρ m p b q from h)
    unfold Region.wanted; rw [hg]
  | some g =>
    rw [hg] at h
    have h : (guardR ops g n env).gives c.ρ m p b q := h
    rw [← look_guard hg] at h
    obtain ⟨_, h2⟩ := guardR_ok hp he.full h
    unfold Region.wanted; rw [hg]; exact h2

theorem does_no {m : Mem} {p q : Pc} (hp : PcR ρ p) (h : (guardO o.guard (fun g => guardR ops g n env)).gives ρ m p false q) (u : Mem) : Does P ρ ops n o env u undefV u := by
  intro c w a hc hm he K Q hK
  rw [if_neg (by rw [guardO_ok hp h hc he]; simp)]
  exact hK c w undef (Step.refl hm) VR.undef

theorem does_rd {cf : FuncId → List V → M V} {m : Mem} {p q p1 q1 : Pc} {f : R V} {v : V} {u : Mem} (hp : PcR ρ p) (h : (guardO o.guard (fun g => guardR ops g n env)).gives ρ m p true q) (hk : evKind o.op P cf env = .rd f) (hp1 : PcR ρ p1) (hf : f.gives ρ u p1 v q1) :
    Does P ρ ops n o env u v u := by
  intro c w a hc hm he K Q hK
  rw [if_pos (guardO_ok hp h hc he)]
  subst hc
  rw [← look_kind (ops := ops) (o := o)] at hk
  obtain ⟨_, z, h4, h5⟩ := rd_ok hm hp1 he.full hk hf
  refine .inl ?_
  unfold Oper.wp
  rw [h4]
  exact hK c w z (Step.refl hm) h5

theorem does_al {cf : FuncId → List V → M V} {m : Mem} {p q p1 q1 : Pc} {f : R (Blk × Shp)} {v : V} {u u' : Mem} (hp : PcR ρ p) (h : (guardO o.guard (fun g => guardR ops g n env)).gives ρ m p true q) (hk : evKind o.op P cf env = .al f) (hp1 : PcR ρ p1) (hf : (allocM f).gives ρ u p1 v u' q1) :
    Does P ρ ops n o env u v u' := by
  intro c w a hc hm he K Q hK
  rw [if_pos (guardO_ok hp h hc he)]
  subst hc
  rw [← look_kind (ops := ops) (o := o)] at hk
  obtain ⟨bs, p2, h3, h4⟩ := R.gives_thn (show (f.thn fun bs => (newBlk bs.1).bnd fun i => M.pure (bs.2.val i)).gives c.ρ u p1 v u' q1 from hf)
  obtain ⟨i, m2, p3, h5, h6⟩ := M.gives_bnd h4
  obtain ⟨rfl, rfl, rfl⟩ := newBlk_gives h5
  obtain ⟨rfl, rfl, rfl⟩ := M.gives_pure h6
  obtain ⟨rfl, ob, z, h7, h8, h9⟩ := al_ok (w := w) hp1 he.full hk h3
  have s1 := Step.new hm h8
  rw [hm.nb] at h9
  refine .inl ?_
  unfold Oper.wp
  rw [h7]
  exact hK _ _ _ s1 h9

theorem does_ef {cf : FuncId → List V → M V} (hcf : CallsOK P ρ cf) {m : Mem} {p q p1 q1 : Pc} {f : M V} {v : V} {u u' : Mem} (hp : PcR ρ p) (h : (guardO o.guard (fun g => guardR ops g n env)).gives ρ m p true q) (hk : evKind o.op P cf env = .ef f) (hp1 : PcR ρ p1) (hf : f.gives ρ u p1 v u' q1) :
    Does P ρ ops n o env u v u' := by
  intro c w a hc hm he K Q hK
  rw [if_pos (guardO_ok hp h hc he)]
  subst hc
  rw [← look_kind (ops := ops) (o := o)] at hk
  exact .inl (ef_ok hm hp1 he.full hcf hk hf K Q fun c' w' z _ s1 hz => hK c' w' z s1 hz)
end does

/-! ### an entry of a literal map -/

/-- two keys are not one, whatever the memory -/
def Apart (P : Program) (kt : TypeId) (nb nt : Nat) (ρ : Nat → Int) (a b : V) : Prop :=
  ∀ (c : Cx) (w : World) (A B : Value), c.ρ = ρ → c.nb = nb → c.nt = nt → VR c a A → VR c b B → cmpK P kt w A B false

theorem bare_ok {c : Cx} {w : World} : MemR c ⟨.nil, c.nb, .nil, c.nt⟩ w :=
  ⟨rfl, rfl, fun i b h => by simp [Tr.get_nil] at h, fun i j b b' h => by simp [Tr.get_nil] at h, fun t n h => by simp [Tr.get_nil] at h⟩

theorem isNo_ok {P : Program} {kt : TypeId} (ht : keyOK P kt = true) {ρ : Nat → Int} {p : Pc} (hp : PcR ρ p) {nb nt : Nat} {a b : V} (h : isNo (keyEq P kt a b ⟨.nil, nb, .nil, nt⟩ p) = true) : Apart P kt nb nt ρ a b := by
  intro c w A B hρ hnb hnt hA hB
  subst hρ hnb hnt
  cases ht2 : keyEq P kt a b ⟨.nil, c.nb, .nil, c.nt⟩ p with
  | ret x =>
    rw [ht2] at h
    obtain ⟨v, q⟩ := x
    have h : notB v = true := h
    cases v with
    | true => exact nomatch h
    | false =>
      have hg : (keyEq P kt a b).gives c.ρ ⟨.nil, c.nb, .nil, c.nt⟩ p false q := by
        unfold R.gives; rw [ht2]; rfl
      exact (cmpK_of bare_ok hp ht hA hB hg).2
  | br c' x y => rw [ht2] at h; exact absurd (show false = true from h) (by simp)
  | fail s => rw [ht2] at h; exact absurd (show false = true from h) (by simp)

/-- the map's entries -/
def PmAt (u : Mem) (b : Nat) (es : List (V × V)) : Prop :=
  u.tr.get b = some (.pm es true) ∨ ∃ es1 k, u.tr.get b = some (.map es1 k true) ∧ es = es1.map fun e => (e.1, e.2.1)

theorem setB_eq (m : Mem) (i : Nat) (b : Blk) : setB m i b = ⟨m.tr.set i b, m.nb, m.tok, m.nt⟩ := rfl
theorem delB_eq (m : Mem) (i : Nat) : delB m i = ⟨m.tr.del i, m.nb, m.tok, m.nt⟩ := rfl

theorem KvR.of_es {c : Cx} : ∀ {es : List (V × V × Nat)} {es' : List MapEntry}, EsR c es es' → KvR c (es.map fun e => (e.1, e.2.1)) es'
  | [], [], _ => trivial
  | [], _ :: _, h => absurd h.1 (by simp)
  | _ :: _, [], h => absurd h.1 (by simp)
  | e :: es, e' :: es', h => by
    obtain ⟨e1, h1, h2, h3, _⟩ := h.2 0 e (by simp)
    simp at h1; subst h1
    exact ⟨h2, h3, KvR.of_es h.uncons.1⟩

theorem PmAt.rel {c : Cx} {u : Mem} {w : World} (hm : MemR c u w) {b : Nat} {es : List (V × V)} (h : PmAt u b es) : b < c.nb ∧ ∃ es' k, w.heap[(c.β b).1]? = some (.map es' k) ∧ PmR c es es'.toList := by
  rcases h with h | ⟨es1, k, h, rfl⟩
  · exact hm.blk b _ h
  · obtain ⟨h1, es', h2, h3⟩ := hm.blk b _ h
    exact ⟨h1, es', k, h2, es'.toList, .refl _, .of_es h3⟩

theorem PmAt.wr {u : Mem} {b : Nat} {es : List (V × V)} (h : PmAt u b es) : ∃ k, u.tr.get b = some k ∧ k.wrB = true := by
  rcases h with h | ⟨es1, k, h, _⟩
  · exact ⟨_, h, rfl⟩
  · exact ⟨_, h, rfl⟩

theorem KvR.mem {c : Cx} : ∀ {es : List (V × V)} {l : List MapEntry}, KvR c es l → ∀ e' ∈ l, ∃ e ∈ es, VR c e.1 e'.key ∧ VR c e.2 e'.val
  | [], [], _, _, h => nomatch h
  | e :: es, e' :: l, ⟨h1, h2, h3⟩, x, hx => by
    cases hx with
    | head => exact ⟨e, .head _, h1, h2⟩
    | tail _ hx => obtain ⟨u, k1, k2⟩ := h3.mem x hx; exact ⟨u, .tail _ k1, k2⟩
  | [], _ :: _, h, _, _ => h.elim
  | _ :: _, [], h, _, _ => h.elim

theorem KvR.push {c : Cx} {k v : V} {e : MapEntry} (hk : VR c k e.key) (hv : VR c v e.val) : ∀ {es : List (V × V)} {l : List MapEntry}, KvR c es l → KvR c (es ++ [(k, v)]) (l ++ [e])
  | [], [], _ => ⟨hk, hv, trivial⟩
  | _ :: _, _ :: _, ⟨h1, h2, h3⟩ => ⟨h1, h2, h3.push hk hv⟩
  | [], _ :: _, h => h.elim
  | _ :: _, [], h => h.elim

theorem PmR.push {c : Cx} {k v : V} {es : List (V × V)} {es' : Array MapEntry} {e : MapEntry} (h : PmR c es es'.toList) (hk : VR c k e.key) (hv : VR c v e.val) : PmR c (es ++ [(k, v)]) (es'.push e).toList := by
  obtain ⟨l', h1, h2⟩ := h
  refine ⟨l' ++ [e], ?_, h2.push hk hv⟩
  rw [Array.toList_push]
  exact h1.append_right [e]

section ins
variable {P : Program} {ρ : Nat → Int} {ops : Array Oper} {n : Nat} {o : Oper} {env : Env}

theorem look_ins : insOf o.op P (lookEnv ops o env) = insOf o.op P env := by
  have e : ∀ t, Operand.tmp t ∈ o.op.operands → lookEnv ops o env t = env t := fun t ht => if_pos (mem_looks ht)
  cases ho : o.op <;> try rfl
  case insert t mp k x =>
    rw [ho] at e
    have o1 : ∀ {x : Operand}, x ∈ (Op.insert t mp k x).operands → True := fun _ => trivial
    have e1 : opd mp (lookEnv ops o env) = opd mp env := opd_congr fun t ht => e t (by rw [← ht]; simp [Op.operands])
    have e2 : opd k (lookEnv ops o env) = opd k env := opd_congr fun t ht => e t (by rw [← ht]; simp [Op.operands])
    have e3 : opd x (lookEnv ops o env) = opd x env := opd_congr fun t ht => e t (by rw [← ht]; simp [Op.operands])
    show (Option.rec none (fun a => selB (keyFit P a.1 (opd k (lookEnv ops o env))) (onMap (opd mp (lookEnv ops o env)) (fun i => some ⟨a.1, i, opd k (lookEnv ops o env), opd x (lookEnv ops o env)⟩) none) none) (mapOf P t) : Option Ins) = Option.rec none (fun a => selB (keyFit P a.1 (opd k env)) (onMap (opd mp env) (fun i => some ⟨a.1, i, opd k env, opd x env⟩) none) none) (mapOf P t)
    rw [e1, e2, e3]

theorem insOf_some {x : Ins} (h : insOf o.op P env = some x) : ∃ t mp k y et, o.op = .insert t mp k y ∧ mapOf P t = some (x.kt, et) ∧ keyFit P x.kt (opd k env) = true ∧ opd mp env = .map x.b ∧ x.k = opd k env ∧ x.v = opd y env := by
  cases ho : o.op <;> rw [ho] at h <;> try exact nomatch (show none = some x from h)
  case insert t mp k y =>
    have h : (Option.rec none (fun a => selB (keyFit P a.1 (opd k env)) (onMap (opd mp env) (fun i => some ⟨a.1, i, opd k env, opd y env⟩) none) none) (mapOf P t) : Option Ins) = some x := h
    cases ha : mapOf P t with
    | none => rw [ha] at h; exact nomatch h
    | some a =>
      rw [ha] at h
      have h : selB (keyFit P a.1 (opd k env)) (onMap (opd mp env) (fun i => some (⟨a.1, i, opd k env, opd y env⟩ : Ins)) none) none = some x := h
      cases hf : keyFit P a.1 (opd k env) with
      | false => rw [hf] at h; exact nomatch h
      | true =>
        rw [hf] at h
        have h : onMap (opd mp env) (fun i => some (⟨a.1, i, opd k env, opd y env⟩ : Ins)) none = some x := h
        rcases onMap_cases (opd mp env) (fun i => some (⟨a.1, i, opd k env, opd y env⟩ : Ins)) none with ⟨i, h1, h2⟩ | h2 <;> rw [h2] at h
        · obtain rfl := Option.some.inj h
          exact ⟨t, mp, k, y, a.2, rfl, ha, hf, h1, rfl, rfl⟩
        · exact nomatch h

/-- the entry, laid -/
theorem does_ins {m u : Mem} {p q : Pc} {x : Ins} {es : List (V × V)} (hp : PcR ρ p) (h : (guardO o.guard (fun g => guardR ops g n env)).gives ρ m p true q) (hx : insOf o.op P env = some x) (hb : PmAt u x.b es)
    (hap : ∀ e ∈ es, Apart P x.kt u.nb u.nt ρ x.k e.1) : Does P ρ ops n o env u undefV (setB u x.b (.pm (es ++ [(x.k, x.v)]) true)) := by
  intro c w a hc hm he K Q hK
  rw [if_pos (guardO_ok hp h hc he)]
  subst hc
  refine .inl ?_
  rw [← look_ins (ops := ops)] at hx
  obtain ⟨t, mp, k, y, et, ho, ha, hfit, hmp, hk, hy⟩ := insOf_some hx
  obtain ⟨hu, hpl⟩ := mapOf_some ha
  have hf := he.full
  have vmp := opd_ok hf mp
  rw [hmp] at vmp
  have vk := opd_ok hf k
  have vy := opd_ok hf y
  rw [← hk] at vk
  rw [← hy] at vy
  rw [← hk] at hfit
  obtain ⟨hlt, es', kk, hh, hpm⟩ := hb.rel hm
  obtain ⟨_, hme⟩ := VR.map.1 vmp
  have hap2 : ∀ e ∈ es'.toList, cmpK P x.kt w (a.eval k) e.key false := by
    intro e he2
    obtain ⟨l', hperm, hkv⟩ := hpm
    obtain ⟨d, hd, hd1, _⟩ := hkv.mem e (hperm.mem_iff.2 he2)
    exact hap d hd c w _ _ rfl hm.nb hm.nt vk hd1
  obtain ⟨r, h1, h2⟩ := find_cmp (K := a.eval k) hpl (es := es'.toList) fun e he2 => ⟨false, hap2 e he2⟩
  have hr : r = none := by
    rcases h2 with ⟨h2, _⟩ | ⟨i, e, h3, h4, _⟩
    · exact h2
    · exact nomatch h4.one (hap2 e h3)
  subst hr
  have hlt2 : (c.β x.b).1 < w.heap.size := (Array.getElem?_eq_some_iff.1 hh).1
  obtain ⟨kb, hkb, hkw⟩ := hb.wr
  have hs : Step c u w c (setB u x.b (.pm (es ++ [(x.k, x.v)]) true)) (World.putObj w (c.β x.b).1 (.map (es'.push ⟨a.eval k, a.eval y, kk⟩) (kk + 1))) := by
    rw [setB_eq]
    exact Step.put hm hkb hkw ⟨_, kk + 1, putObj_same hlt2, hpm.push vk vy⟩ (by simp [World.putObj]) (fun j hj => putObj_other hj) rfl rfl rfl
  have hg : (getObj (c.β x.b).1).run P w = .ok (.map es' kk) w := run_getObj hh
  have hrun : (Instr.mapUpdate t (a.eval mp) (a.eval k) (a.eval y)).run P w = .ok () (World.putObj w (c.β x.b).1 (.map (es'.push ⟨a.eval k, a.eval y, kk⟩) (kk + 1))) := by
    rw [hme]
    simpa [Instr.mapUpdate, run_und hu, hg, checkKey_ok hpl vk hfit, h1] using run_setObj (P := P) hh
  exact EffR.of_unit (q := p) hp hs hrun (by unfold execOp; rw [ho]) K Q fun c' w' z _ s1 hz => hK c' w' z s1 hz
end ins

/-! ### values that are one -/

theorem andB_ok {a b : Bool} (h : andB a b = true) : a = true ∧ b = true := andB_iff.1 h

theorem eqE_ok {a b : E} (h : eqE a b = true) : a = b := by
  cases a <;> cases b <;> exact E.beq_eq h

theorem eqB_ok {a b : Bool} (h : eqB a b = true) : a = b := by cases a <;> cases b <;> first | rfl | (exact absurd h (by simp [eqB, notB]))

theorem eqBB_ok : ∀ {a b : B}, eqBB a b = true → a = b
  | .lit u, b, h => by
    cases b with
    | lit v => rw [eqB_ok (show eqB u v = true from h)]
    | _ => exact absurd (show false = true from h) (by simp)
  | .lt x y, b, h => by
    cases b with
    | lt z w => obtain ⟨h1, h2⟩ := andB_ok (show andB (eqE x z) (eqE y w) = true from h); rw [eqE_ok h1, eqE_ok h2]
    | _ => exact absurd (show false = true from h) (by simp)
  | .eq x y, b, h => by
    cases b with
    | eq z w => obtain ⟨h1, h2⟩ := andB_ok (show andB (eqE x z) (eqE y w) = true from h); rw [eqE_ok h1, eqE_ok h2]
    | _ => exact absurd (show false = true from h) (by simp)
  | .not a, b, h => by
    cases b with
    | not c => rw [eqBB_ok (show eqBB a c = true from h)]
    | _ => exact absurd (show false = true from h) (by simp)

theorem eqEs_ok : ∀ {a b : List E}, eqEs a b = true → a = b
  | [], b, h => by
    cases b with
    | nil => rfl
    | cons y r => exact absurd (show false = true from h) (by simp)
  | x :: l, b, h => by
    cases b with
    | nil => exact absurd (show false = true from h) (by simp)
    | cons y r => obtain ⟨h1, h2⟩ := andB_ok (show andB (eqE x y) (eqEs l r) = true from h); rw [eqE_ok h1, eqEs_ok h2]

theorem eqCp_ok {a b : Cp} (h : eqCp a b = true) : a = b := by
  cases a with
  | n c =>
    cases b with
    | n d => rw [(beq_iff c d).1 h]
    | t i k => exact absurd (show false = true from h) (by simp)
  | t i k =>
    cases b with
    | n d => exact absurd (show false = true from h) (by simp)
    | t j l => obtain ⟨h1, h2⟩ := andB_ok (show andB (Nat.beq i j) (Nat.beq k l) = true from h); rw [(beq_iff i j).1 h1, (beq_iff k l).1 h2]

theorem eqFn_ok {a b : Fn} (h : eqFn a b = true) : a = b := by
  cases a <;> first | exact absurd (show false = true from h) (by simp) | skip
  case func f =>
    cases b <;> first | exact absurd (show false = true from h) (by simp) | skip
    case func g => rw [(beq_iff f g).1 h]

theorem eqVV_ok (a : V) : ∀ b, eqVV a b = true → a = b := by
  refine V.rec (motive_1 := fun a => ∀ b, eqVV a b = true → a = b) (motive_2 := fun l => ∀ l' : List V, eqVV (.agg l) (.agg l') = true → l = l') ?_ ?_ ?_ ?_ ?_ ?_ ?_ ?_ ?_ ?_ ?_ ?_ ?_ ?_ ?_ ?_ ?_ ?_ ?_ ?_ ?_ a
  · intro x b h
    cases b with
    | bool y => rw [eqBB_ok (show eqBB x y = true from h)]
    | _ => exact absurd (show false = true from h) (by simp)
  · intro k e b h
    cases b with
    | int k' e' => obtain ⟨h1, h2⟩ := andB_ok (show andB (Nat.beq (kindNo k) (kindNo k')) (eqE e e') = true from h); rw [kindNo_inj h1, eqE_ok h2]
    | _ => exact absurd (show false = true from h) (by simp)
  · intro l b h
    cases b with
    | str l' => rw [eqEs_ok (show eqEs l l' = true from h)]
    | _ => exact absurd (show false = true from h) (by simp)
  · intro b h
    cases b with
    | nilPtr => rfl
    | _ => exact absurd (show false = true from h) (by simp)
  · intro i o b h
    cases b with
    | ptr i' o' => obtain ⟨h1, h2⟩ := andB_ok (show andB (Nat.beq i i') (Nat.beq o o') = true from h); rw [(beq_iff _ _).1 h1, (beq_iff _ _).1 h2]
    | _ => exact absurd (show false = true from h) (by simp)
  · intro b h
    cases b with
    | nilSlice => rfl
    | _ => exact absurd (show false = true from h) (by simp)
  · intro i o n c b h
    cases b with
    | slice i' o' n' c' => obtain ⟨h1, h2⟩ := andB_ok (show andB (andB (Nat.beq i i') (Nat.beq o o')) (andB (Nat.beq n n') (eqCp c c')) = true from h); obtain ⟨h3, h4⟩ := andB_ok h1; obtain ⟨h5, h6⟩ := andB_ok h2; rw [(beq_iff _ _).1 h3, (beq_iff _ _).1 h4, (beq_iff _ _).1 h5, eqCp_ok h6]
    | _ => exact absurd (show false = true from h) (by simp)
  · intro b h
    cases b with
    | nilMap => rfl
    | _ => exact absurd (show false = true from h) (by simp)
  · intro i b h
    cases b with
    | map i' => rw [(beq_iff i i').1 h]
    | _ => exact absurd (show false = true from h) (by simp)
  · intro f x y ia ib b h
    cases b with
    | func f' x' y' => obtain ⟨h1, h2⟩ := andB_ok (show andB (eqFn f f') (andB (eqVV (.agg x) (.agg x')) (eqVV (.agg y) (.agg y'))) = true from h); obtain ⟨h3, h4⟩ := andB_ok h2; rw [eqFn_ok h1, ia _ h3, ib _ h4]
    | _ => exact absurd (show false = true from h) (by simp)
  · intro b h
    cases b with
    | nilFunc => rfl
    | _ => exact absurd (show false = true from h) (by simp)
  · intro t v ih b h
    cases b with
    | iface t' v' => obtain ⟨h1, h2⟩ := andB_ok (show andB (Nat.beq t t') (eqVV v v') = true from h); rw [(beq_iff _ _).1 h1, ih _ h2]
    | _ => exact absurd (show false = true from h) (by simp)
  · intro b h
    cases b with
    | nilIface => rfl
    | _ => exact absurd (show false = true from h) (by simp)
  · intro l ih b h
    cases b with
    | agg l' => rw [ih _ h]
    | _ => exact absurd (show false = true from h) (by simp)
  · intro l ih b h
    cases b with
    | tuple l' => rw [ih _ h]
    | _ => exact absurd (show false = true from h) (by simp)
  · intro b h
    exact absurd (show false = true from h) (by simp)
  · intro i sz n b h
    cases b with
    | sarr i' sz' n' => obtain ⟨h1, h2⟩ := andB_ok (show andB (andB (Nat.beq i i') (Nat.beq sz sz')) (eqE n n') = true from h); obtain ⟨h3, h4⟩ := andB_ok h1; rw [(beq_iff _ _).1 h3, (beq_iff _ _).1 h4, eqE_ok h2]
    | _ => exact absurd (show false = true from h) (by simp)
  · intro i sz e f b h
    cases b with
    | sptr i' sz' e' f' => obtain ⟨h1, h2⟩ := andB_ok (show andB (andB (Nat.beq i i') (Nat.beq sz sz')) (andB (eqE e e') (Nat.beq f f')) = true from h); obtain ⟨h3, h4⟩ := andB_ok h1; obtain ⟨h5, h6⟩ := andB_ok h2; rw [(beq_iff _ _).1 h3, (beq_iff _ _).1 h4, eqE_ok h5, (beq_iff _ _).1 h6]
    | _ => exact absurd (show false = true from h) (by simp)
  · intro i z b h
    cases b with
    | eslice i' z' => obtain ⟨h1, h2⟩ := andB_ok (show andB (Nat.beq i i') (eqB z z') = true from h); rw [(beq_iff _ _).1 h1, eqB_ok h2]
    | _ => exact absurd (show false = true from h) (by simp)
  · intro b h
    cases b with
    | nil => rfl
    | cons y r => exact absurd (show false = true from h) (by simp)
  · intro x l ih il b h
    cases b with
    | nil => exact absurd (show false = true from h) (by simp)
    | cons y r => obtain ⟨h1, h2⟩ := andB_ok (show andB (eqVV x y) (eqVV (.agg l) (.agg r)) = true from h); rw [ih _ h1, il _ h2]

end Go.Sy
