/-
  What is proved here: a region whose order is drawn, from its run in the order of the text: what each operation does at each memory at which it may run.
  Conditions: none.
-/
import Derived.Test.YthlpiijglhifmaaDoorSyDraw3
namespace Go.Sy

section out
variable {α β : Type} {ρ : Nat → Int}

theorem T.out_bndq {f : α → Mem → Pc → T β} {r : β} : ∀ {t : T (Rs α)} {p : Pc}, PcR ρ p → (t.bndq p f).out ρ = some r → ∃ a p1, t.out ρ = some a ∧ PcR ρ p1 ∧ (f a.v a.m p1).out ρ = some r
  | .ret a, p, hp, h => ⟨a, p, rfl, hp, h⟩
  | .br c x y, p, hp, h => by
    have h : (T.br c (x.bndq (p.add c true) f) (y.bndq (p.add c false) f)).out ρ = some r := h
    simp only [T.out] at h ⊢
    cases hc : c.den ρ with
    | true => rw [hc] at h; exact T.out_bndq (Pc.add_ok hp hc) (by simpa using h)
    | false => rw [hc] at h; exact T.out_bndq (Pc.add_ok hp hc) (by simpa using h)
  | .fail s, p, hp, h => by
    have h : (T.fail s : T β).out ρ = some r := h
    simp [T.out] at h

theorem T.out_bndpq {f : α → Pc → T β} {r : β} : ∀ {t : T (Rp α)} {p : Pc}, PcR ρ p → (t.bndpq p f).out ρ = some r → ∃ a p1, t.out ρ = some a ∧ PcR ρ p1 ∧ (f a.v p1).out ρ = some r
  | .ret a, p, hp, h => ⟨a, p, rfl, hp, h⟩
  | .br c x y, p, hp, h => by
    have h : (T.br c (x.bndpq (p.add c true) f) (y.bndpq (p.add c false) f)).out ρ = some r := h
    simp only [T.out] at h ⊢
    cases hc : c.den ρ with
    | true => rw [hc] at h; exact T.out_bndpq (Pc.add_ok hp hc) (by simpa using h)
    | false => rw [hc] at h; exact T.out_bndpq (Pc.add_ok hp hc) (by simpa using h)
  | .fail s, p, hp, h => by
    have h : (T.fail s : T β).out ρ = some r := h
    simp [T.out] at h

theorem T.out_selB {c : Bool} {x : T β} {s : String} {r : β} (h : (selB c x (.fail s)).out ρ = some r) : c = true ∧ x.out ρ = some r := by
  cases c with
  | true => exact ⟨rfl, h⟩
  | false =>
    have h : (T.fail s : T β).out ρ = some r := h
    simp [T.out] at h

theorem sameAt_ok {f : R V} {v : V} {p : Pc} {m : Mem} (h : sameAt f v p m = true) : ∃ q, f.gives ρ m p v q := by
  unfold sameAt at h
  unfold R.gives
  cases ht : f m p with
  | ret a =>
    rw [ht] at h
    obtain ⟨u, q⟩ := a
    have := eqVV_ok u v h
    subst this
    exact ⟨q, rfl⟩
  | br c x y => rw [ht] at h; exact absurd (show false = true from h) (by simp)
  | fail s => rw [ht] at h; exact absurd (show false = true from h) (by simp)

theorem allL_ok {f : α → Bool} : ∀ {l : List α}, allL f l = true → ∀ x ∈ l, f x = true
  | [], _, x, hx => by simp at hx
  | a :: l, h, x, hx => by
    have h : (Bool.rec false (allL f l) (f a) : Bool) = true := h
    cases ha : f a with
    | false => rw [ha] at h; simp at h
    | true =>
      rw [ha] at h
      cases hx with
      | head => exact ha
      | tail _ hx => exact allL_ok h x hx

theorem keepL_mem {f : α → Bool} {x : α} : ∀ {l : List α}, x ∈ l → f x = false → x ∈ keepL f l
  | a :: l, hx, hf => by
    show x ∈ (Bool.rec (a :: keepL f l) (keepL f l) (f a) : List α)
    cases ha : f a with
    | false =>
      cases hx with
      | head => exact .head _
      | tail _ hx => exact .tail _ (keepL_mem hx hf)
    | true =>
      cases hx with
      | head => rw [ha] at hf; simp at hf
      | tail _ hx => exact keepL_mem hx hf

theorem orB_ok {a b : Bool} (h : orB a b = true) : a = true ∨ b = true := by cases a <;> cases b <;> simp_all [orB]
end out

section cert
variable {P : Program} {ρ : Nat → Int} {ops : Array Oper} {n : Nat} {env0 : Env}

def dstAt (ops : Array Oper) (j : Nat) : Option Nat := (ops[j]?).bind (·.dst)

/-- the slots behind the first j operations, in the order of the text -/
noncomputable def envT (ops : Array Oper) (val : Nat → V) (env0 : Env) : Nat → Env
  | 0 => env0
  | j + 1 => putE (dstAt ops j) (envT ops val env0 j) (val j)

theorem envT_congr {val val' : Nat → V} : ∀ {j : Nat}, (∀ x, x < j → val' x = val x) → envT ops val' env0 j = envT ops val env0 j
  | 0, _ => rfl
  | j + 1, h => by rw [envT, envT, envT_congr (fun x hx => h x (by omega)), h j (by omega)]

/-- the first i operations: what they give ('val'), which are the ones that write, in their order ('eff'), and the memories between those ('mem', k of them done) -/
structure Cert (P : Program) (ρ : Nat → Int) (ops : Array Oper) (n : Nat) (env0 : Env) (i k : Nat) (val : Nat → V) (eff : Nat → Option Nat) (mem : Nat → Mem) : Prop where
  does : ∀ (j : Nat) (o : Oper) (a : Nat), j < i → ops[j]? = some o → eff j = some a → a < k ∧ Does P ρ ops n o (envT ops val env0 j) (mem a) (val j) (mem (a + 1))
  reads : ∀ (j : Nat) (o : Oper) (a : Nat), j < i → ops[j]? = some o → eff j = none → a ≤ k → (∀ e b, e < i → eff e = some b → Anc ops j e → b < a) → (∀ e b, e < i → eff e = some b → Anc ops e j → a ≤ b) →
    Does P ρ ops n o (envT ops val env0 j) (mem a) (val j) (mem a)
  onto : ∀ a, a < k → ∃ j, j < i ∧ eff j = some a
  chain : ∀ j j' a a', j < i → j' < i → eff j = some a → eff j' = some a' → a < a' → Anc ops j' j
  inj : ∀ j j' a, j < i → j' < i → eff j = some a → eff j' = some a → j = j'
  slot : ∀ j d, j < i → dstAt ops j = some d → d < n

/-- what the evaluator remembers -/
structure Mind (P : Program) (ρ : Nat → Int) (ops : Array Oper) (n : Nat) (env0 : Env) (i k : Nat) (val : Nat → V) (eff : Nat → Option Nat) (mem : Nat → Mem) (sn : List Sn) (ws : List Wt) : Prop where
  sns : ∀ a, a < k → ∃ s ∈ sn, s.m = mem a ∧ s.e < i ∧ eff s.e = some a
  last : ∀ a, a + 1 = k → ∃ s r, sn = s :: r ∧ s.e < i ∧ eff s.e = some a
  wss : ∀ (j : Nat) (o : Oper), j < i → ops[j]? = some o → eff j = none → (∃ e b, e < i ∧ eff e = some b ∧ Anc ops e j) ∨ (∀ u, Does P ρ ops n o (envT ops val env0 j) u (val j) u) ∨
    ∃ w ∈ ws, w.i = j ∧ PcR ρ w.p ∧ ∀ u q, w.f.gives ρ u w.p w.v q → Does P ρ ops n o (envT ops val env0 j) u (val j) u

def updN {α : Type} (f : Nat → α) (i : Nat) (v : α) : Nat → α := fun j => if j = i then v else f j
theorem updN_same {α : Type} {f : Nat → α} {i : Nat} {v : α} : updN f i v i = v := if_pos rfl
theorem updN_lt {α : Type} {f : Nat → α} {i j : Nat} {v : α} (h : j < i) : updN f i v j = f j := if_neg (by omega)

theorem envT_upd {val : Nat → V} {i j : Nat} {v : V} (h : j ≤ i) : envT ops (updN val i v) env0 j = envT ops val env0 j :=
  envT_congr fun x hx => updN_lt (by omega)

section step
variable {i k : Nat} {val : Nat → V} {eff : Nat → Option Nat} {mem : Nat → Mem} {sn : List Sn} {ws : List Wt} {o : Oper} {v : V}

theorem slot_step {d : Option Nat} (h : slotOk d n = true) : ∀ t, d = some t → t < n := by
  rintro t rfl
  exact (blt_iff _ _).1 h

/-- one more operation that writes -/
theorem Cert.addEff (C : Cert P ρ ops n env0 i k val eff mem) (N : Mind P ρ ops n env0 i k val eff mem sn ws) (ho : ops[i]? = some o) {m1 : Mem} (hd : Does P ρ ops n o (envT ops val env0 i) (mem k) v m1) (hs : slotOk o.dst n = true)
    {A : Nat} (hA : ∀ b, A.testBit b = true → Anc ops i b) (hl : lastOk A sn = true) (hw : allL (fun w => orB (bitB A w.i) (sameAt w.f w.v w.p m1)) ws = true) :
    Cert P ρ ops n env0 (i + 1) (k + 1) (updN val i v) (updN eff i (some k)) (updN mem (k + 1) m1) ∧
    Mind P ρ ops n env0 (i + 1) (k + 1) (updN val i v) (updN eff i (some k)) (updN mem (k + 1) m1) (⟨i, mem k⟩ :: sn) (keepL (fun w => bitB A w.i) ws) := by
  have split : ∀ j, j < i + 1 → j < i ∨ j = i := fun j h => by omega
  have hmk : ∀ a, a ≤ k → updN mem (k + 1) m1 a = mem a := fun a ha => updN_lt (by omega)
  -- all that write come before
  have hall : ∀ j a, j < i → eff j = some a → Anc ops i j := by
    intro j a hj hja
    obtain ⟨o', ho'⟩ : ∃ o', ops[j]? = some o' := ⟨ops[j]'(by have := (Array.getElem?_eq_some_iff.1 ho).1; omega), Array.getElem?_eq_getElem _⟩
    have hak := (C.does j o' a hj ho' hja).1
    obtain ⟨s, r, rfl, hs1, hs2⟩ := N.last (k - 1) (by omega)
    have h1 : Anc ops i s.e := hA _ (bitB_iff (show bitB A s.e = true from hl))
    by_cases hlt : a < k - 1
    · exact h1.trans (C.chain j s.e a (k - 1) hj hs1 hja hs2 hlt)
    · have : a = k - 1 := by omega
      subst this
      rw [C.inj j s.e _ hj hs1 hja hs2]; exact h1
  refine ⟨⟨?_, ?_, ?_, ?_, ?_, ?_⟩, ⟨?_, ?_, ?_⟩⟩
  · intro j o' a hj ho' ha
    rcases split j hj with h | rfl
    · rw [updN_lt h] at ha
      obtain ⟨h1, h2⟩ := C.does j o' a h ho' ha
      rw [envT_upd (by omega), updN_lt h, hmk a (by omega), hmk (a + 1) (by omega)]
      exact ⟨by omega, h2⟩
    · rw [updN_same] at ha
      simp at ha; subst ha
      rw [ho] at ho'; simp at ho'; subst ho'
      rw [envT_upd (Nat.le_refl _), updN_same, hmk k (Nat.le_refl _), updN_same]
      exact ⟨by omega, hd⟩
  · intro j o' a hj ho' ha hak h1 h2
    rcases split j hj with h | rfl
    · rw [updN_lt h] at ha
      rw [envT_upd (by omega), updN_lt h]
      have h1' : ∀ e b, e < i → eff e = some b → Anc ops j e → b < a := fun e b he hb hanc => h1 e b (by omega) (by rw [updN_lt he]; exact hb) hanc
      have h2' : ∀ e b, e < i → eff e = some b → Anc ops e j → a ≤ b := fun e b he hb hanc => h2 e b (by omega) (by rw [updN_lt he]; exact hb) hanc
      by_cases hk : a ≤ k
      · rw [hmk a hk]; exact C.reads j o' a h ho' ha hk h1' h2'
      · have hak' : a = k + 1 := by omega
        subst hak'
        rw [updN_same]
        rcases N.wss j o' h ho' ha with ⟨e, b, he, hb, hanc⟩ | hany | ⟨w, hwm, rfl, hwp, hwd⟩
        · have h3 := h2' e b he hb hanc
          obtain ⟨oe, hoe⟩ : ∃ o', ops[e]? = some o' := ⟨ops[e]'(by have := (Array.getElem?_eq_some_iff.1 ho).1; omega), Array.getElem?_eq_getElem _⟩
          have := (C.does e oe b he hoe hb).1
          omega
        · exact hany m1
        · rcases orB_ok (allL_ok hw w hwm) with h3 | h3
          · have := h2 i k (by omega) updN_same (hA _ (bitB_iff h3))
            omega
          · obtain ⟨q, hq⟩ := sameAt_ok (ρ := ρ) h3
            exact hwd m1 q hq
    · rw [updN_same] at ha; simp at ha
  · intro a ha
    by_cases hk : a < k
    · obtain ⟨j, hj, h⟩ := C.onto a hk
      exact ⟨j, by omega, by rw [updN_lt hj]; exact h⟩
    · have : a = k := by omega
      subst this
      exact ⟨i, by omega, updN_same⟩
  · intro j j' a a' hj hj' h h' hlt
    rcases split j hj with hji | rfl <;> rcases split j' hj' with hji' | rfl
    · rw [updN_lt hji] at h; rw [updN_lt hji'] at h'
      exact C.chain j j' a a' hji hji' h h' hlt
    · rw [updN_lt hji] at h
      exact hall j a hji h
    · rw [updN_same] at h; simp at h; subst h
      rw [updN_lt hji'] at h'
      obtain ⟨o', ho'⟩ : ∃ o', ops[j']? = some o' := ⟨ops[j']'(by have := (Array.getElem?_eq_some_iff.1 ho).1; omega), Array.getElem?_eq_getElem _⟩
      have := (C.does j' o' a' hji' ho' h').1
      omega
    · rw [updN_same] at h h'; simp at h h'; omega
  · intro j j' a hj hj' h h'
    rcases split j hj with hji | rfl <;> rcases split j' hj' with hji' | rfl
    · rw [updN_lt hji] at h; rw [updN_lt hji'] at h'
      exact C.inj j j' a hji hji' h h'
    · rw [updN_lt hji] at h; rw [updN_same] at h'; simp at h'; subst h'
      obtain ⟨o', ho'⟩ : ∃ o', ops[j]? = some o' := ⟨ops[j]'(by have := (Array.getElem?_eq_some_iff.1 ho).1; omega), Array.getElem?_eq_getElem _⟩
      have := (C.does j o' _ hji ho' h).1
      omega
    · rw [updN_lt hji'] at h'; rw [updN_same] at h; simp at h; subst h
      obtain ⟨o', ho'⟩ : ∃ o', ops[j']? = some o' := ⟨ops[j']'(by have := (Array.getElem?_eq_some_iff.1 ho).1; omega), Array.getElem?_eq_getElem _⟩
      have := (C.does j' o' _ hji' ho' h').1
      omega
    · rfl
  · intro j d hj hdj
    rcases split j hj with h | rfl
    · exact C.slot j d h hdj
    · unfold dstAt at hdj; rw [ho] at hdj; exact slot_step hs d hdj
  · intro a ha
    by_cases hk : a < k
    · obtain ⟨s, h1, h2, h3, h4⟩ := N.sns a hk
      exact ⟨s, .tail _ h1, by rw [h2, hmk a (by omega)], by omega, by rw [updN_lt h3]; exact h4⟩
    · have : a = k := by omega
      subst this
      exact ⟨_, .head _, by rw [hmk a (Nat.le_refl _)], by show i < i + 1; omega, updN_same⟩
  · intro a ha
    have : a = k := by omega
    subst this
    exact ⟨_, _, rfl, by show i < i + 1; omega, updN_same⟩
  · intro j o' hj ho' ha
    rcases split j hj with h | rfl
    · rw [updN_lt h] at ha
      rw [envT_upd (by omega), updN_lt h]
      rcases N.wss j o' h ho' ha with ⟨e, b, he, hb, hanc⟩ | hany | ⟨w, hwm, rfl, hwp, hwd⟩
      · exact .inl ⟨e, b, by omega, by rw [updN_lt he]; exact hb, hanc⟩
      · exact .inr (.inl hany)
      · cases hbit : bitB A w.i with
        | true => exact .inl ⟨i, k, by omega, updN_same, hA _ (bitB_iff hbit)⟩
        | false => exact .inr (.inr ⟨w, keepL_mem hwm hbit, rfl, hwp, hwd⟩)
    · rw [updN_same] at ha; simp at ha

/-- one more operation that does not write -/
theorem Cert.addRead (C : Cert P ρ ops n env0 i k val eff mem) (N : Mind P ρ ops n env0 i k val eff mem sn ws) (ho : ops[i]? = some o) (hs : slotOk o.dst n = true) {ws' : List Wt} (hsub : ∀ w ∈ ws, w ∈ ws')
    (hr : ∀ a, a ≤ k → (∀ e b, e < i → eff e = some b → Anc ops i e → b < a) → Does P ρ ops n o (envT ops val env0 i) (mem a) v (mem a))
    (hw : (∀ u, Does P ρ ops n o (envT ops val env0 i) u v u) ∨ ∃ w ∈ ws', w.i = i ∧ PcR ρ w.p ∧ ∀ u q, w.f.gives ρ u w.p w.v q → Does P ρ ops n o (envT ops val env0 i) u v u) :
    Cert P ρ ops n env0 (i + 1) k (updN val i v) (updN eff i none) mem ∧ Mind P ρ ops n env0 (i + 1) k (updN val i v) (updN eff i none) mem sn ws' := by
  have split : ∀ j, j < i + 1 → j < i ∨ j = i := fun j h => by omega
  have old : ∀ {j a}, j < i + 1 → updN eff i none j = some a → j < i ∧ eff j = some a := by
    intro j a hj h
    rcases split j hj with h1 | rfl
    · rw [updN_lt h1] at h; exact ⟨h1, h⟩
    · rw [updN_same] at h; simp at h
  refine ⟨⟨?_, ?_, ?_, ?_, ?_, ?_⟩, ⟨?_, ?_, ?_⟩⟩
  · intro j o' a hj ho' ha
    obtain ⟨h1, h2⟩ := old hj ha
    rw [envT_upd (by omega), updN_lt h1]
    exact C.does j o' a h1 ho' h2
  · intro j o' a hj ho' ha hak h1 h2
    rcases split j hj with h | rfl
    · rw [updN_lt h] at ha
      rw [envT_upd (by omega), updN_lt h]
      exact C.reads j o' a h ho' ha hak (fun e b he hb => h1 e b (by omega) (by rw [updN_lt he]; exact hb)) (fun e b he hb => h2 e b (by omega) (by rw [updN_lt he]; exact hb))
    · rw [ho] at ho'; simp at ho'; subst ho'
      rw [envT_upd (Nat.le_refl _), updN_same]
      exact hr a hak (fun e b he hb => h1 e b (by omega) (by rw [updN_lt he]; exact hb))
  · intro a ha
    obtain ⟨j, hj, h⟩ := C.onto a ha
    exact ⟨j, by omega, by rw [updN_lt hj]; exact h⟩
  · intro j j' a a' hj hj' h h' hlt
    obtain ⟨h1, h2⟩ := old hj h
    obtain ⟨h3, h4⟩ := old hj' h'
    exact C.chain j j' a a' h1 h3 h2 h4 hlt
  · intro j j' a hj hj' h h'
    obtain ⟨h1, h2⟩ := old hj h
    obtain ⟨h3, h4⟩ := old hj' h'
    exact C.inj j j' a h1 h3 h2 h4
  · intro j d hj hdj
    rcases split j hj with h | rfl
    · exact C.slot j d h hdj
    · unfold dstAt at hdj; rw [ho] at hdj; exact slot_step hs d hdj
  · intro a ha
    obtain ⟨s, h1, h2, h3, h4⟩ := N.sns a ha
    exact ⟨s, h1, h2, by omega, by rw [updN_lt h3]; exact h4⟩
  · intro a ha
    obtain ⟨s, r, h1, h3, h4⟩ := N.last a ha
    exact ⟨s, r, h1, by omega, by rw [updN_lt h3]; exact h4⟩
  · intro j o' hj ho' ha
    rcases split j hj with h | rfl
    · rw [updN_lt h] at ha
      rw [envT_upd (by omega), updN_lt h]
      rcases N.wss j o' h ho' ha with ⟨e, b, he, hb, hanc⟩ | hany | ⟨w, hwm, hwi, hwd⟩
      · exact .inl ⟨e, b, by omega, by rw [updN_lt he]; exact hb, hanc⟩
      · exact .inr (.inl hany)
      · exact .inr (.inr ⟨w, hsub w hwm, hwi, hwd⟩)
    · rw [ho] at ho'; simp at ho'; subst ho'
      rw [envT_upd (Nat.le_refl _), updN_same]
      exact .inr hw
end step
end cert

end Go.Sy
