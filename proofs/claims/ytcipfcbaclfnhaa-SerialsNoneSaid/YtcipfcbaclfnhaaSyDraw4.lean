/-
  What is proved here: a region whose order is drawn, from its run in the order of the text: what each operation does at each memory at which it may run.
  Conditions: none.
-/
import Derived.Test.YtcipfcbaclfnhaaSyDraw3
namespace Go.Sy

section out
variable {α β : Type} {ρ : Nat → Int}

theorem T.out_bndq {f : α → Mem → Pc → T β} {r : β} : ∀ {t : T (Rs α)} {p : Pc}, PcR ρ p → (t.bndq p f).out ρ = some r → ∃ a p1, t.out ρ = some a ∧ PcR ρ p1 ∧ (f a.v a.m p1).out ρ = some r
  | .ret a, p, hp, h => ⟨a, p, rfl, hp, h⟩
  | .br c x y, p, hp, h => by
    have h : (T.br c (x.bndq (p.add c true) f) (y.bndq (p.add c false) f)).out ρ = some r := h
    simp only [T.out] at h ⊢
    cases hc : c.den ρ with
    | true => rw [hc] at h; exact T.out_bndq (Pc.add_ok hp hc) (by simpa using h)
    | false => rw [hc] at h; exact T.out_bndq (Pc.add_ok hp hc) (by simpa using h)
  | .fail s, p, hp, h => by
    have h : (T.fail s : T β).out ρ = some r := h
    simp [T.out] at h

theorem T.out_bndpq {f : α → Pc → T β} {r : β} : ∀ {t : T (Rp α)} {p : Pc}, PcR ρ p → (t.bndpq p f).out ρ = some r → ∃ a p1, t.out ρ = some a ∧ PcR ρ p1 ∧ (f a.v p1).out ρ = some r
  | .ret a, p, hp, h => ⟨a, p, rfl, hp, h⟩
  | .br c x y, p, hp, h => by
    have h : (T.br c (x.bndpq (p.add c true) f) (y.bndpq (p.add c false) f)).out ρ = some r := h
    simp only [T.out] at h ⊢
    cases hc : c.den ρ with
    | true => rw [hc] at h; exact T.out_bndpq (Pc.add_ok hp hc) (by simpa using h)
    | false => rw [hc] at h; exact T.out_bndpq (Pc.add_ok hp hc) (by simpa using h)
  | .fail s, p, hp, h => by
    have h : (T.fail s : T β).out ρ = some r := h
    simp [T.out] at h

theorem T.out_selB {c : Bool} {x : T β} {s : String} {r : β} (h : (selB c x (.fail s)).out ρ = some r) : c = true ∧ x.out ρ = some r := by
  cases c with
  | true => exact ⟨rfl, h⟩
  | false =>
    have h : (T.fail s : T β).out ρ = some r := h
    simp [T.out] at h

theorem sameAt_ok {f : R V} {v : V} {p : Pc} {m : Mem} (h : sameAt f v p m = true) : ∃ q, f.gives ρ m p v q := by
  unfold sameAt at h
  unfold R.gives
  cases ht : f m p with
  | ret a =>
    rw [ht] at h
    obtain ⟨u, q⟩ := a
    have := eqVV_ok u v h
    subst this
    exact ⟨q, rfl⟩
  | br c x y => rw [ht] at h; exact absurd (show false = true from h) (by simp)
  | fail s => rw [ht] at h; exact absurd (show false = true from h) (by simp)

theorem allL_ok {f : α → Bool} : ∀ {l : List α}, allL f l = true → ∀ x ∈ l, f x = true
  | [], _, x, hx => by simp at hx
  | a :: l, h, x, hx => by
    have h : (Bool.rec false (allL f l) (f a) : Bool) = true := h
    cases ha : f a with
    | false => rw [ha] at h; simp at h
    | true =>
      rw [ha] at h
      cases hx with
      | head => exact ha
      | tail _ hx => exact allL_ok h x hx

theorem keepL_mem {f : α → Bool} {x : α} : ∀ {l : List α}, x ∈ l → f x = false → x ∈ keepL f l
  | a :: l, hx, hf => by
    show x ∈ (Bool.rec (a :: keepL f l) (keepL f l) (f a) : List α)
    cases ha : f a with
    | false =>
      cases hx with
      | head => exact .head _
      | tail _ hx => exact .tail _ (keepL_mem hx hf)
    | true =>
      cases hx with
      | head => rw [ha] at hf; simp at hf
      | tail _ hx => exact keepL_mem hx hf

theorem orB_ok {a b : Bool} (h : orB a b = true) : a = true ∨ b = true := by cases a <;> cases b <;> simp_all [orB]
end out

/-! ### maps up to the order of their entries -/

section mems
variable {c : Cx}

theorem KvR.perm {a b : List (V × V)} (h : a.Perm b) : ∀ {l : List MapEntry}, KvR c a l → ∃ l', l'.Perm l ∧ KvR c b l' := by
  induction h with
  | nil => exact fun {l} hl => ⟨l, .refl _, hl⟩
  | cons x _ ih =>
    intro l hl
    cases l with
    | nil => exact hl.elim
    | cons e l =>
      obtain ⟨h1, h2, h3⟩ := hl
      obtain ⟨l', h4, h5⟩ := ih h3
      exact ⟨e :: l', h4.cons e, h1, h2, h5⟩
  | swap x y a =>
    intro l hl
    cases l with
    | nil => exact hl.elim
    | cons e l =>
      obtain ⟨h1, h2, h3⟩ := hl
      cases l with
      | nil => exact h3.elim
      | cons e' l =>
        obtain ⟨h4, h5, h6⟩ := h3
        exact ⟨e' :: e :: l, .swap e e' l, h4, h5, h1, h2, h6⟩
  | trans _ _ ih1 ih2 =>
    intro l hl
    obtain ⟨l1, h1, h2⟩ := ih1 hl
    obtain ⟨l2, h3, h4⟩ := ih2 h2
    exact ⟨l2, h3.trans h1, h4⟩

theorem PmR.perm {a b : List (V × V)} {l : List MapEntry} (h : a.Perm b) (hr : PmR c a l) : PmR c b l := by
  obtain ⟨l', h1, h2⟩ := hr
  obtain ⟨l2, h3, h4⟩ := h2.perm h
  exact ⟨l2, h3.trans h1, h4⟩

def BlkE (x y : Option Blk) : Prop := x = y ∨ ∃ a b w, x = some (.pm a w) ∧ y = some (.pm b w) ∧ a.Perm b

theorem BlkE.symm {x y : Option Blk} (h : BlkE x y) : BlkE y x := by
  rcases h with h | ⟨a, b, w, h1, h2, h3⟩
  · exact .inl h.symm
  · exact .inr ⟨b, a, w, h2, h1, h3.symm⟩

/-- memories that are one, but for the order of maps' entries -/
structure MemE (m m' : Mem) : Prop where
  nb : m.nb = m'.nb
  nt : m.nt = m'.nt
  tok : m.tok = m'.tok
  tr : ∀ i, BlkE (m.tr.get i) (m'.tr.get i)

theorem MemE.symm {m m' : Mem} (h : MemE m m') : MemE m' m := ⟨h.nb.symm, h.nt.symm, h.tok.symm, fun i => (h.tr i).symm⟩

theorem BlkE.some {x : Option Blk} {b' : Blk} (h : BlkE x (some b')) : ∃ b, x = some b ∧ b.wrB = b'.wrB ∧ b.plB = b'.plB ∧ (∀ c : Cx, b'.live c → b.live c) ∧ ∀ (c : Cx) (w : World) (loc : Nat × Nat), BlkR c w loc b → BlkR c w loc b' := by
  rcases h with rfl | ⟨a, b, w, rfl, h2, h3⟩
  · exact ⟨b', rfl, rfl, rfl, fun _ h => h, fun _ _ _ h => h⟩
  · obtain rfl := Option.some.inj h2
    exact ⟨_, rfl, rfl, rfl, fun _ h => h, fun c w' loc hr => let ⟨es', k, k1, k2⟩ := hr; ⟨es', k, k1, k2.perm h3⟩⟩

theorem MemE.rel {m m' : Mem} (h : MemE m m') {w : World} (hm : MemR c m w) : MemR c m' w := by
  refine ⟨hm.nb.trans h.nb, hm.nt.trans h.nt, fun i b hb => ?_, fun i j b b' hb hb' hij hap l1 l2 => ?_, fun t n ht => hm.tok t n (by rw [h.tok]; exact ht)⟩
  · have e := h.tr i
    rw [hb] at e
    obtain ⟨k, h1, _, _, _, h2⟩ := e.some
    obtain ⟨h3, h4⟩ := hm.blk i k h1
    exact ⟨h3, h2 _ _ _ h4⟩
  · have e := h.tr i
    rw [hb] at e
    have e' := h.tr j
    rw [hb'] at e'
    obtain ⟨k, h1, h2, h3, h4, _⟩ := e.some
    obtain ⟨k', k1, k2, k3, k4, _⟩ := e'.some
    exact hm.inj i j k k' h1 k1 hij (by unfold Blk.apt at *; rw [h2, h3, k2, k3]; exact hap) (h4 c l1) (k4 c l2)

theorem MemE.wr {m m' : Mem} (h : MemE m m') {x : Nat} (hx : Wr c m' x) : Wr c m x := by
  obtain ⟨i, b, h1, h2, h3⟩ := hx
  have e := h.tr i
  rw [h1] at e
  obtain ⟨k, k1, k2, _⟩ := e.some
  exact ⟨i, k, k1, by rw [k2]; exact h2, h3⟩

theorem Step.toE {c' : Cx} {u m m' : Mem} {w w' : World} (h : Step c u w c' m w') (e : MemE m m') : Step c u w c' m' w' :=
  ⟨e.rel h.rel, h.le, h.os, h.tape, h.output, h.size, h.frame, fun b hb => h.wr b (e.wr hb)⟩

/-- the second is part of the first -/
structure MemSub (m d : Mem) : Prop where
  nb : m.nb = d.nb
  nt : m.nt = d.nt
  tok : m.tok = d.tok
  tr : ∀ i b, d.tr.get i = some b → m.tr.get i = some b

theorem MemSub.refl (m : Mem) : MemSub m m := ⟨rfl, rfl, rfl, fun _ _ h => h⟩

theorem MemSub.rel {m d : Mem} (h : MemSub m d) {w : World} (hm : MemR c m w) : MemR c d w :=
  ⟨hm.nb.trans h.nb, hm.nt.trans h.nt, fun i b hb => hm.blk i b (h.tr i b hb), fun i j b b' hb hb' => hm.inj i j b b' (h.tr i b hb) (h.tr j b' hb'), fun t n ht => hm.tok t n (by rw [h.tok]; exact ht)⟩

theorem Tr.setF_setF {α : Type} : ∀ (f : Nat) (v v' : Option α) (t : Tr α) (k : Nat), k < f → Tr.setF f v' (Tr.setF f v t k) k = Tr.setF f v' t k
  | 0, _, _, _, _, h => absurd h (by omega)
  | f + 1, v, v', t, k, h => by
    have hs : ∀ (v : Option α) (t : Tr α), Tr.setF (f + 1) v t k = Tr.rec (motive := fun _ => Tr α) .nil
      (fun u t0 t1 t2 t3 _ _ _ _ => Nat.rec (.node v t0 t1 t2 t3) (fun k _ => Bool.rec
        (Bool.rec (.node u t0 t1 t2 (Tr.setF f v t3 (Nat.div k 4))) (.node u t0 t1 (Tr.setF f v t2 (Nat.div k 4)) t3) (Nat.beq (Nat.mod k 4) 2))
        (Bool.rec (.node u t0 (Tr.setF f v t1 (Nat.div k 4)) t2 t3) (.node u (Tr.setF f v t0 (Nat.div k 4)) t1 t2 t3) (Nat.beq (Nat.mod k 4) 0)) (Nat.blt (Nat.mod k 4) 2)) k)
      t.open := fun _ _ => rfl
    have ho : ∃ u t0 t1 t2 t3, t.open = .node u t0 t1 t2 t3 := by cases t <;> exact ⟨_, _, _, _, _, rfl⟩
    obtain ⟨u, t0, t1, t2, t3, ho⟩ := ho
    have hopen : ∀ (u : Option α) (a b c d : Tr α), (Tr.node u a b c d).open = .node u a b c d := fun _ _ _ _ _ => rfl
    rw [hs v' (Tr.setF (f + 1) v t k), hs v t, hs v' t, ho]
    clear hs ho
    cases k with
    | zero => rfl
    | succ k =>
      have hk : k / 4 < f := by omega
      show (Tr.rec (motive := fun _ => Tr α) .nil
        (fun u t0 t1 t2 t3 _ _ _ _ => Bool.rec
          (Bool.rec (.node u t0 t1 t2 (Tr.setF f v' t3 (k / 4))) (.node u t0 t1 (Tr.setF f v' t2 (k / 4)) t3) (Nat.beq (k % 4) 2))
          (Bool.rec (.node u t0 (Tr.setF f v' t1 (k / 4)) t2 t3) (.node u (Tr.setF f v' t0 (k / 4)) t1 t2 t3) (Nat.beq (k % 4) 0)) (Nat.blt (k % 4) 2))
        (Bool.rec
          (Bool.rec (.node u t0 t1 t2 (Tr.setF f v t3 (k / 4))) (.node u t0 t1 (Tr.setF f v t2 (k / 4)) t3) (Nat.beq (k % 4) 2))
          (Bool.rec (.node u t0 (Tr.setF f v t1 (k / 4)) t2 t3) (.node u (Tr.setF f v t0 (k / 4)) t1 t2 t3) (Nat.beq (k % 4) 0)) (Nat.blt (k % 4) 2) : Tr α).open : Tr α) = Bool.rec
          (Bool.rec (.node u t0 t1 t2 (Tr.setF f v' t3 (k / 4))) (.node u t0 t1 (Tr.setF f v' t2 (k / 4)) t3) (Nat.beq (k % 4) 2))
          (Bool.rec (.node u t0 (Tr.setF f v' t1 (k / 4)) t2 t3) (.node u (Tr.setF f v' t0 (k / 4)) t1 t2 t3) (Nat.beq (k % 4) 0)) (Nat.blt (k % 4) 2)
      rcases lt4 k with h | h | h | h <;> rw [h]
      · show Tr.node u (Tr.setF f v' (Tr.setF f v t0 (k / 4)) (k / 4)) t1 t2 t3 = Tr.node u (Tr.setF f v' t0 (k / 4)) t1 t2 t3
        rw [Tr.setF_setF f v v' t0 (k / 4) hk]
      · show Tr.node u t0 (Tr.setF f v' (Tr.setF f v t1 (k / 4)) (k / 4)) t2 t3 = Tr.node u t0 (Tr.setF f v' t1 (k / 4)) t2 t3
        rw [Tr.setF_setF f v v' t1 (k / 4) hk]
      · show Tr.node u t0 t1 (Tr.setF f v' (Tr.setF f v t2 (k / 4)) (k / 4)) t3 = Tr.node u t0 t1 (Tr.setF f v' t2 (k / 4)) t3
        rw [Tr.setF_setF f v v' t2 (k / 4) hk]
      · show Tr.node u t0 t1 t2 (Tr.setF f v' (Tr.setF f v t3 (k / 4)) (k / 4)) = Tr.node u t0 t1 t2 (Tr.setF f v' t3 (k / 4))
        rw [Tr.setF_setF f v v' t3 (k / 4) hk]

theorem setB_setB (m : Mem) (b : Nat) (x y : Blk) : setB (setB m b x) b y = setB m b y := by
  show (⟨Tr.setF (b + 1) (some y) (Tr.setF (b + 1) (some x) m.tr b) b, m.nb, m.tok, m.nt⟩ : Mem) = ⟨Tr.setF (b + 1) (some y) m.tr b, m.nb, m.tok, m.nt⟩
  rw [Tr.setF_setF _ _ _ _ _ (Nat.lt_succ_self b)]

theorem setB_get (m : Mem) (b j : Nat) (x : Blk) : (setB m b x).tr.get j = if j = b then some x else m.tr.get j := Tr.get_set m.tr b j x
theorem delB_get (m : Mem) (b j : Nat) : (delB m b).tr.get j = if j = b then none else m.tr.get j := Tr.get_del m.tr b j

theorem setB_E {m : Mem} {b : Nat} {x y : List (V × V)} (h : x.Perm y) : MemE (setB m b (.pm x true)) (setB m b (.pm y true)) := by
  refine ⟨rfl, rfl, rfl, fun i => ?_⟩
  rw [setB_get, setB_get]
  split
  · exact .inr ⟨x, y, true, rfl, rfl, h⟩
  · exact .inl rfl

theorem setB_sub (m : Mem) (b : Nat) (x : Blk) : MemSub (setB m b x) (delB m b) := by
  refine ⟨rfl, rfl, rfl, fun i k h => ?_⟩
  rw [delB_get] at h
  rw [setB_get]
  split at h
  · exact nomatch h
  · rename_i e; rw [if_neg e]; exact h

theorem delB_sub (m : Mem) (b : Nat) : MemSub m (delB m b) := by
  refine ⟨rfl, rfl, rfl, fun i k h => ?_⟩
  rw [delB_get] at h
  split at h
  · exact nomatch h
  · exact h
end mems

def updN {α : Type} (f : Nat → α) (i : Nat) (v : α) : Nat → α := fun j => if j = i then v else f j
theorem updN_same {α : Type} {f : Nat → α} {i : Nat} {v : α} : updN f i v i = v := if_pos rfl
theorem updN_ne {α : Type} {f : Nat → α} {i j : Nat} {v : α} (h : j ≠ i) : updN f i v j = f j := if_neg h
theorem updN_lt {α : Type} {f : Nat → α} {i j : Nat} {v : α} (h : j < i) : updN f i v j = f j := if_neg (by omega)

/-! ### the entries of some of a group's members -/

def insL (G : List (Nat × (V × V))) (S : Nat → Bool) : List (V × V) := (G.filter fun x => S x.1).map (·.2)

noncomputable def grpM (mb : Mem) (b : Nat) (es0 : List (V × V)) (G : List (Nat × (V × V))) (S : Nat → Bool) : Mem :=
  match insL G S with
  | [] => mb
  | x :: l => setB mb b (.pm (es0 ++ x :: l) true)

theorem insL_congr {S S' : Nat → Bool} : ∀ {G : List (Nat × (V × V))}, (∀ x ∈ G, S x.1 = S' x.1) → insL G S = insL G S'
  | [], _ => rfl
  | x :: G, h => by
    have ih := insL_congr (G := G) fun y hy => h y (.tail _ hy)
    unfold insL at ih ⊢
    rw [List.filter_cons, List.filter_cons, h x (.head _)]
    split <;> simp [ih]

theorem insL_none {S : Nat → Bool} {G : List (Nat × (V × V))} (h : ∀ x ∈ G, S x.1 = false) : insL G S = [] := by
  unfold insL
  rw [List.filter_eq_nil_iff.2 (fun x hx => by simp [h x hx])]
  rfl

theorem insL_all {S : Nat → Bool} {G : List (Nat × (V × V))} (h : ∀ x ∈ G, S x.1 = true) : insL G S = G.map (·.2) := by
  unfold insL
  rw [List.filter_eq_self.2 (fun x hx => by simp [h x hx])]

theorem mem_insL {S : Nat → Bool} {G : List (Nat × (V × V))} {e : V × V} : e ∈ insL G S ↔ ∃ x ∈ G, S x.1 = true ∧ x.2 = e := by
  unfold insL
  rw [List.mem_map]
  constructor
  · rintro ⟨x, hx, rfl⟩
    obtain ⟨h1, h2⟩ := List.mem_filter.1 hx
    exact ⟨x, h1, h2, rfl⟩
  · rintro ⟨x, h1, h2, rfl⟩
    exact ⟨x, List.mem_filter.2 ⟨h1, h2⟩, rfl⟩

theorem insL_new {S : Nat → Bool} {j : Nat} {kv : V × V} (hS : S j = false) : ∀ {G : List (Nat × (V × V))}, (G.map (·.1)).Nodup → (j, kv) ∈ G → (insL G (updN S j true)).Perm (kv :: insL G S)
  | [], _, h => nomatch h
  | x :: G, hn, h => by
    rw [List.map_cons, List.nodup_cons] at hn
    cases h with
    | head =>
      have hne : ∀ y ∈ G, y.1 ≠ j := fun y hy e => hn.1 (List.mem_map.2 ⟨y, hy, e⟩)
      have e : insL G (updN S j true) = insL G S := insL_congr fun y hy => updN_ne (hne y hy)
      unfold insL at e ⊢
      rw [List.filter_cons, List.filter_cons]
      simp only [updN_same, hS]
      simp [e]
    | tail _ h =>
      have ih := insL_new hS hn.2 h
      have hx : x.1 ≠ j := fun e => hn.1 (List.mem_map.2 ⟨(j, kv), h, e.symm⟩)
      unfold insL at ih ⊢
      rw [List.filter_cons, List.filter_cons, updN_ne hx]
      cases hs : S x.1 with
      | true => simpa using (ih.cons x.2).trans (List.Perm.swap kv x.2 _)
      | false => simpa using ih

theorem grpM_pos {mb : Mem} {b : Nat} {es0 : List (V × V)} {G : List (Nat × (V × V))} {S : Nat → Bool} (h : insL G S ≠ []) : grpM mb b es0 G S = setB mb b (.pm (es0 ++ insL G S) true) := by
  unfold grpM
  cases hl : insL G S with
  | nil => exact absurd hl h
  | cons x l => rfl

theorem grpM_none {mb : Mem} {b : Nat} {es0 : List (V × V)} {G : List (Nat × (V × V))} {S : Nat → Bool} (h : insL G S = []) : grpM mb b es0 G S = mb := by
  unfold grpM; rw [h]

theorem grpM_nb (mb : Mem) (b : Nat) (es0 : List (V × V)) (G : List (Nat × (V × V))) (S : Nat → Bool) : (grpM mb b es0 G S).nb = mb.nb ∧ (grpM mb b es0 G S).nt = mb.nt := by
  by_cases h : insL G S = []
  · rw [grpM_none h]; exact ⟨rfl, rfl⟩
  · rw [grpM_pos h]; exact ⟨rfl, rfl⟩

theorem grpM_at {mb : Mem} {b : Nat} {es0 : List (V × V)} (h0 : PmAt mb b es0) (G : List (Nat × (V × V))) (S : Nat → Bool) : PmAt (grpM mb b es0 G S) b (es0 ++ insL G S) := by
  by_cases h : insL G S = []
  · rw [grpM_none h, h, List.append_nil]; exact h0
  · rw [grpM_pos h]
    exact .inl (by rw [setB_get, if_pos rfl])

theorem grpM_set (mb : Mem) (b : Nat) (es0 : List (V × V)) (G : List (Nat × (V × V))) (S : Nat → Bool) (x : Blk) : setB (grpM mb b es0 G S) b x = setB mb b x := by
  by_cases h : insL G S = []
  · rw [grpM_none h]
  · rw [grpM_pos h, setB_setB]

theorem grpM_sub (mb : Mem) (b : Nat) (es0 : List (V × V)) (G : List (Nat × (V × V))) (S : Nat → Bool) : MemSub (grpM mb b es0 G S) (delB mb b) := by
  by_cases h : insL G S = []
  · rw [grpM_none h]; exact delB_sub mb b
  · rw [grpM_pos h]; exact setB_sub mb b _

section cert
variable {P : Program} {ρ : Nat → Int} {ops : Array Oper} {n : Nat} {env0 : Env} {m0 : Mem}

theorem Does.toE {o : Oper} {env : Env} {u m m' : Mem} {v : V} (h : Does P ρ ops n o env u v m) (e : MemE m m') : Does P ρ ops n o env u v m' :=
  fun _ _ _ hc hm he K Q hK => h hc hm he K Q fun c' w' z s hz => hK c' w' z (s.toE e) hz

def dstAt (ops : Array Oper) (j : Nat) : Option Nat := (ops[j]?).bind (·.dst)

/-- the slots behind the first j operations, in the order of the text -/
noncomputable def envT (ops : Array Oper) (val : Nat → V) (env0 : Env) : Nat → Env
  | 0 => env0
  | j + 1 => putE (dstAt ops j) (envT ops val env0 j) (val j)

theorem envT_congr {val val' : Nat → V} : ∀ {j : Nat}, (∀ x, x < j → val' x = val x) → envT ops val' env0 j = envT ops val env0 j
  | 0, _ => rfl
  | j + 1, h => by rw [envT, envT, envT_congr (fun x hx => h x (by omega)), h j (by omega)]

theorem envT_upd {val : Nat → V} {i j : Nat} {v : V} (h : j ≤ i) : envT ops (updN val i v) env0 j = envT ops val env0 j :=
  envT_congr fun x hx => updN_lt (by omega)

/-- the first i operations: what they give ('val'), the levels of those that write ('eff'; k levels), the memories at each level, by which of its operations are done ('mem'), and behind all ('cur') -/
structure Cert (P : Program) (ρ : Nat → Int) (ops : Array Oper) (n : Nat) (env0 : Env) (m0 : Mem) (i k : Nat) (val : Nat → V) (eff : Nat → Option Nat) (mem : Nat → (Nat → Bool) → Mem) (cur : Mem) : Prop where
  does : ∀ (j : Nat) (o : Oper) (a : Nat) (S : Nat → Bool), j < i → ops[j]? = some o → eff j = some a → S j = false → Does P ρ ops n o (envT ops val env0 j) (mem a S) (val j) (mem a (updN S j true))
  lt : ∀ j a, j < i → eff j = some a → a < k
  reads : ∀ (j : Nat) (o : Oper) (a : Nat) (S : Nat → Bool), j < i → ops[j]? = some o → eff j = none → (a = k ∨ a < k ∧ ∃ e, e < i ∧ eff e = some a ∧ S e = false) →
    (∀ e b, e < i → eff e = some b → Anc ops j e → b < a ∨ b = a ∧ S e = true) → (∀ e b, e < i → eff e = some b → Anc ops e j → a < b ∨ b = a ∧ S e = false) → Does P ρ ops n o (envT ops val env0 j) (mem a S) (val j) (mem a S)
  onto : ∀ a, a < k → ∃ j, j < i ∧ eff j = some a
  chain : ∀ j j' a a', j < i → j' < i → eff j = some a → eff j' = some a' → a < a' → Anc ops j' j
  full : ∀ (a : Nat) (S S' : Nat → Bool), a < k → (∀ j, j < i → eff j = some a → S j = true) → (∀ j, j < i → eff j = some (a + 1) → S' j = false) → mem a S = mem (a + 1) S'
  ext : ∀ (a : Nat) (S S' : Nat → Bool), (∀ j, j < i → eff j = some a → S j = S' j) → mem a S = mem a S'
  top : ∀ (a : Nat) (S : Nat → Bool), k ≤ a → mem a S = cur
  start : mem 0 (fun _ => false) = m0
  slot : ∀ j d, j < i → dstAt ops j = some d → d < n

theorem slot_step {d : Option Nat} (h : slotOk d n = true) : ∀ t, d = some t → t < n := by
  rintro t rfl
  exact (blt_iff _ _).1 h

section step
variable {i k : Nat} {val : Nat → V} {eff : Nat → Option Nat} {mem : Nat → (Nat → Bool) → Mem} {cur : Mem} {o : Oper} {v : V}

theorem lt_split {j i : Nat} (h : j < i + 1) : j < i ∨ j = i := by omega

theorem Cert.slot_new (C : Cert P ρ ops n env0 m0 i k val eff mem cur) (ho : ops[i]? = some o) (hs : slotOk o.dst n = true) : ∀ j d, j < i + 1 → dstAt ops j = some d → d < n := by
  intro j d hj hdj
  rcases lt_split hj with h | rfl
  · exact C.slot j d h hdj
  · unfold dstAt at hdj; rw [ho] at hdj; exact slot_step hs d hdj

/-- the memories, with a new level: one operation -/
noncomputable def memLv (mem : Nat → (Nat → Bool) → Mem) (cur m1 : Mem) (i k : Nat) : Nat → (Nat → Bool) → Mem := fun a S => if a < k then mem a S else if a = k then (if S i = true then m1 else cur) else m1

theorem memLv_lt {m1 : Mem} {a : Nat} {S : Nat → Bool} (h : a < k) : memLv mem cur m1 i k a S = mem a S := if_pos h
theorem memLv_no {m1 : Mem} {S : Nat → Bool} (h : S i = false) : memLv mem cur m1 i k k S = cur := by unfold memLv; rw [if_neg (Nat.lt_irrefl _), if_pos rfl, h]; rfl
theorem memLv_yes {m1 : Mem} {S : Nat → Bool} (h : S i = true) : memLv mem cur m1 i k k S = m1 := by unfold memLv; rw [if_neg (Nat.lt_irrefl _), if_pos rfl, h]; rfl
theorem memLv_gt {m1 : Mem} {a : Nat} {S : Nat → Bool} (h : k < a) : memLv mem cur m1 i k a S = m1 := by unfold memLv; rw [if_neg (by omega), if_neg (by omega)]

/-- one more operation that writes: a level of its own -/
theorem Cert.addLevel (C : Cert P ρ ops n env0 m0 i k val eff mem cur) (ho : ops[i]? = some o) {m1 : Mem} (hd : Does P ρ ops n o (envT ops val env0 i) cur v m1) (hs : slotOk o.dst n = true)
    (hall : ∀ j a, j < i → eff j = some a → Anc ops i j)
    (hr : ∀ (j : Nat) (o' : Oper), j < i → ops[j]? = some o' → eff j = none → (∃ e b, e < i ∧ eff e = some b ∧ Anc ops e j) ∨ Anc ops i j ∨ Does P ρ ops n o' (envT ops val env0 j) m1 (val j) m1) :
    Cert P ρ ops n env0 m0 (i + 1) (k + 1) (updN val i v) (updN eff i (some k)) (memLv mem cur m1 i k) m1 := by
  have old : ∀ {j a}, j < i → (updN eff i (some k) j = some a ↔ eff j = some a) := fun hj => by rw [updN_lt hj]
  refine ⟨?_, ?_, ?_, ?_, ?_, ?_, ?_, ?_, ?_, C.slot_new ho hs⟩
  · intro j o' a S hj ho' ha hS
    rcases lt_split hj with h | rfl
    · rw [old h] at ha
      have hak := C.lt j a h ha
      rw [envT_upd (by omega), updN_lt h, memLv_lt hak, memLv_lt hak]
      exact C.does j o' a S h ho' ha hS
    · rw [updN_same] at ha
      obtain rfl := Option.some.inj ha
      rw [ho] at ho'; obtain rfl := Option.some.inj ho'
      rw [envT_upd (Nat.le_refl _), updN_same, memLv_no hS, memLv_yes updN_same]
      exact hd
  · intro j a hj ha
    rcases lt_split hj with h | rfl
    · have := C.lt j a h ((old h).1 ha); omega
    · rw [updN_same] at ha; obtain rfl := Option.some.inj ha; omega
  · intro j o' a S hj ho' ha hpos h1 h2
    rcases lt_split hj with h | rfl
    rotate_left
    · rw [updN_same] at ha; exact nomatch ha
    rw [updN_lt h] at ha
    rw [envT_upd (by omega), updN_lt h]
    have h1' : ∀ e b, e < i → eff e = some b → Anc ops j e → b < a ∨ b = a ∧ S e = true := fun e b he hb => h1 e b (by omega) ((old he).2 hb)
    have h2' : ∀ e b, e < i → eff e = some b → Anc ops e j → a < b ∨ b = a ∧ S e = false := fun e b he hb => h2 e b (by omega) ((old he).2 hb)
    rcases Nat.lt_trichotomy a k with hak | rfl | hak
    · rw [memLv_lt hak]
      refine C.reads j o' a S h ho' ha (.inr ⟨hak, ?_⟩) h1' h2'
      rcases hpos with rfl | ⟨_, e, he, hea, heS⟩
      · omega
      · rcases lt_split he with h3 | rfl
        · exact ⟨e, h3, (old h3).1 hea, heS⟩
        · rw [updN_same] at hea; have := Option.some.inj hea; omega
    · have hSi : S i = false := by
        rcases hpos with h3 | ⟨_, e, he, hea, heS⟩
        · omega
        · rcases lt_split he with h3 | rfl
          · have := C.lt e a h3 ((old h3).1 hea); omega
          · exact heS
      rw [memLv_no hSi, ← C.top a S (Nat.le_refl _)]
      exact C.reads j o' a S h ho' ha (.inl rfl) h1' h2'
    · rw [memLv_gt hak]
      rcases hr j o' h ho' ha with ⟨e, b, he, hb, hanc⟩ | hanc | hD
      · have := C.lt e b he hb
        rcases h2' e b he hb hanc with h3 | ⟨h3, _⟩ <;> omega
      · rcases h2 i k (by omega) updN_same hanc with h3 | ⟨h3, _⟩ <;> omega
      · exact hD
  · intro a ha
    by_cases hk : a < k
    · obtain ⟨j, hj, h⟩ := C.onto a hk
      exact ⟨j, by omega, (old hj).2 h⟩
    · obtain rfl : a = k := by omega
      exact ⟨i, by omega, updN_same⟩
  · intro j j' a a' hj hj' h h' hlt
    rcases lt_split hj with hji | rfl <;> rcases lt_split hj' with hji' | rfl
    · exact C.chain j j' a a' hji hji' ((old hji).1 h) ((old hji').1 h') hlt
    · exact hall j a hji ((old hji).1 h)
    · rw [updN_same] at h; obtain rfl := Option.some.inj h
      have := C.lt j' a' hji' ((old hji').1 h'); omega
    · rw [updN_same] at h h'; have := Option.some.inj h; have := Option.some.inj h'; omega
  · intro a S S' hak h h'
    by_cases hk : a < k
    · rw [memLv_lt hk]
      have h0 : ∀ j, j < i → eff j = some a → S j = true := fun j hj hja => h j (by omega) ((old hj).2 hja)
      by_cases hk2 : a + 1 < k
      · rw [memLv_lt hk2]
        exact C.full a S S' hk h0 fun j hj hja => h' j (by omega) ((old hj).2 hja)
      · have hk3 : a + 1 = k := by omega
        rw [hk3] at h' ⊢
        rw [memLv_no (h' i (by omega) updN_same), C.full a S S' hk h0 (fun j hj hja => by have := C.lt j _ hj hja; omega), C.top _ _ (by omega)]
    · obtain rfl : a = k := by omega
      rw [memLv_yes (h i (by omega) updN_same), memLv_gt (by omega)]
  · intro a S S' h
    rcases Nat.lt_trichotomy a k with hak | rfl | hak
    · rw [memLv_lt hak, memLv_lt hak]
      exact C.ext a S S' fun j hj hja => h j (by omega) ((old hj).2 hja)
    · unfold memLv
      rw [h i (by omega) updN_same]
      simp only [Nat.lt_irrefl, if_false]
    · rw [memLv_gt hak, memLv_gt hak]
  · intro a S h
    exact memLv_gt (by omega)
  · by_cases hk : 0 < k
    · rw [memLv_lt hk]; exact C.start
    · obtain rfl : k = 0 := by omega
      rw [memLv_no rfl, ← C.top 0 (fun _ => false) (Nat.le_refl _)]; exact C.start

/-- one more operation that does not write -/
theorem Cert.addRead (C : Cert P ρ ops n env0 m0 i k val eff mem cur) (ho : ops[i]? = some o) (hs : slotOk o.dst n = true)
    (hr : ∀ (a : Nat) (S : Nat → Bool), (a = k ∨ a < k ∧ ∃ e, e < i ∧ eff e = some a ∧ S e = false) → (∀ e b, e < i → eff e = some b → Anc ops i e → b < a ∨ b = a ∧ S e = true) → Does P ρ ops n o (envT ops val env0 i) (mem a S) v (mem a S)) :
    Cert P ρ ops n env0 m0 (i + 1) k (updN val i v) (updN eff i none) mem cur := by
  have old : ∀ {j a}, j < i + 1 → updN eff i none j = some a → j < i ∧ eff j = some a := by
    intro j a hj h
    rcases lt_split hj with h1 | rfl
    · rw [updN_lt h1] at h; exact ⟨h1, h⟩
    · rw [updN_same] at h; exact nomatch h
  have back : ∀ {j a}, j < i → eff j = some a → updN eff i none j = some a := fun hj h => by rw [updN_lt hj]; exact h
  refine ⟨?_, ?_, ?_, ?_, ?_, ?_, ?_, C.top, C.start, C.slot_new ho hs⟩
  · intro j o' a S hj ho' ha hS
    obtain ⟨h1, h2⟩ := old hj ha
    rw [envT_upd (by omega), updN_lt h1]
    exact C.does j o' a S h1 ho' h2 hS
  · intro j a hj ha
    obtain ⟨h1, h2⟩ := old hj ha
    exact C.lt j a h1 h2
  · intro j o' a S hj ho' ha hpos h1 h2
    have hpos' : a = k ∨ a < k ∧ ∃ e, e < i ∧ eff e = some a ∧ S e = false := by
      rcases hpos with h3 | ⟨h3, e, he, hea, heS⟩
      · exact .inl h3
      · obtain ⟨h4, h5⟩ := old he hea
        exact .inr ⟨h3, e, h4, h5, heS⟩
    rcases lt_split hj with h | rfl
    · rw [updN_lt h] at ha
      rw [envT_upd (by omega), updN_lt h]
      exact C.reads j o' a S h ho' ha hpos' (fun e b he hb => h1 e b (by omega) (back he hb)) (fun e b he hb => h2 e b (by omega) (back he hb))
    · rw [ho] at ho'; obtain rfl := Option.some.inj ho'
      rw [envT_upd (Nat.le_refl _), updN_same]
      exact hr a S hpos' fun e b he hb => h1 e b (by omega) (back he hb)
  · intro a ha
    obtain ⟨j, hj, h⟩ := C.onto a ha
    exact ⟨j, by omega, back hj h⟩
  · intro j j' a a' hj hj' h h' hlt
    obtain ⟨h1, h2⟩ := old hj h
    obtain ⟨h3, h4⟩ := old hj' h'
    exact C.chain j j' a a' h1 h3 h2 h4 hlt
  · intro a S S' hak h h'
    exact C.full a S S' hak (fun j hj hja => h j (by omega) (back hj hja)) (fun j hj hja => h' j (by omega) (back hj hja))
  · intro a S S' h
    exact C.ext a S S' fun j hj hja => h j (by omega) (back hj hja)

/-- the last level: entries of one map, in any order -/
structure GrpI (P : Program) (ρ : Nat → Int) (ops : Array Oper) (n : Nat) (env0 : Env) (i l : Nat) (val : Nat → V) (eff : Nat → Option Nat) (mem : Nat → (Nat → Bool) → Mem) (cur : Mem) (b : Nat) (kt : TypeId) (mb : Mem) (es0 : List (V × V)) (G : List (Nat × (V × V))) : Prop where
  pm : PmAt mb b es0
  now : cur = setB mb b (.pm (es0 ++ G.map (·.2)) true)
  mems : ∀ S, mem l S = grpM mb b es0 G S
  mbs : ∀ j, (∃ kv, (j, kv) ∈ G) ↔ j < i ∧ eff j = some l
  nodup : (G.map (·.1)).Nodup
  ne : G ≠ []
  apart : ∀ x ∈ G, ∀ y ∈ G, x.1 ≠ y.1 → Apart P kt mb.nb mb.nt ρ x.2.1 y.2.1
  apart0 : ∀ x ∈ G, ∀ e ∈ es0, Apart P kt mb.nb mb.nt ρ x.2.1 e.1
  ins : ∀ x ∈ G, ∀ o, ops[x.1]? = some o → ∀ (u : Mem) (es : List (V × V)), u.nb = mb.nb → u.nt = mb.nt → PmAt u b es → (∀ e ∈ es, Apart P kt mb.nb mb.nt ρ x.2.1 e.1) →
    Does P ρ ops n o (envT ops val env0 x.1) u (val x.1) (setB u b (.pm (es ++ [x.2]) true))

theorem GrpI.does {l b : Nat} {kt : TypeId} {mb : Mem} {es0 : List (V × V)} {G : List (Nat × (V × V))} (g : GrpI P ρ ops n env0 i l val eff mem cur b kt mb es0 G) {x : Nat × (V × V)} (hx : x ∈ G) (ho : ops[x.1]? = some o) {S : Nat → Bool} (hS : S x.1 = false) :
    Does P ρ ops n o (envT ops val env0 x.1) (grpM mb b es0 G S) (val x.1) (grpM mb b es0 G (updN S x.1 true)) := by
  obtain ⟨n1, n2⟩ := grpM_nb mb b es0 G S
  refine (g.ins x hx o ho (grpM mb b es0 G S) (es0 ++ insL G S) n1 n2 (grpM_at g.pm G S) fun e he => ?_).toE ?_
  · rcases List.mem_append.1 he with he | he
    · exact g.apart0 x hx e he
    · obtain ⟨y, hy, hyS, rfl⟩ := mem_insL.1 he
      exact g.apart x hx y hy fun e => by rw [← e, hS] at hyS; exact nomatch hyS
  · have hp := insL_new (kv := x.2) hS g.nodup hx
    have hne : insL G (updN S x.1 true) ≠ [] := fun e => by rw [e] at hp; exact nomatch hp.length_eq
    rw [grpM_set, grpM_pos hne]
    refine setB_E ?_
    rw [List.append_assoc]
    exact ((List.perm_append_comm (l₁ := insL G S) (l₂ := [x.2])).trans hp.symm).append_left es0

/-- the memories, with one more entry in the last level -/
noncomputable def memJn (mem : Nat → (Nat → Bool) → Mem) (M : (Nat → Bool) → Mem) (m1 : Mem) (l : Nat) : Nat → (Nat → Bool) → Mem := fun a S => if a < l then mem a S else if a = l then M S else m1
theorem memJn_lt {M : (Nat → Bool) → Mem} {m1 : Mem} {l a : Nat} {S : Nat → Bool} (h : a < l) : memJn mem M m1 l a S = mem a S := if_pos h
theorem memJn_eq {M : (Nat → Bool) → Mem} {m1 : Mem} {l : Nat} {S : Nat → Bool} : memJn mem M m1 l l S = M S := by unfold memJn; rw [if_neg (Nat.lt_irrefl _), if_pos rfl]
theorem memJn_gt {M : (Nat → Bool) → Mem} {m1 : Mem} {l a : Nat} {S : Nat → Bool} (h : l < a) : memJn mem M m1 l a S = m1 := by unfold memJn; rw [if_neg (by omega), if_neg (by omega)]

/-- one more entry in the last level -/
theorem Cert.addJoin {l : Nat} (C : Cert P ρ ops n env0 m0 i (l + 1) val eff mem cur) {b : Nat} {kt : TypeId} {mb : Mem} {es0 : List (V × V)} {G : List (Nat × (V × V))} (g : GrpI P ρ ops n env0 i l val eff mem cur b kt mb es0 G)
    (ho : ops[i]? = some o) (hs : slotOk o.dst n = true) {kv : V × V}
    (hins : ∀ (u : Mem) (es : List (V × V)), u.nb = mb.nb → u.nt = mb.nt → PmAt u b es → (∀ e ∈ es, Apart P kt mb.nb mb.nt ρ kv.1 e.1) → Does P ρ ops n o (envT ops val env0 i) u v (setB u b (.pm (es ++ [kv]) true)))
    (hap : ∀ e ∈ es0 ++ G.map (·.2), Apart P kt mb.nb mb.nt ρ kv.1 e.1 ∧ Apart P kt mb.nb mb.nt ρ e.1 kv.1)
    (hall : ∀ j a, j < i → eff j = some a → a < l → Anc ops i j)
    (hr : ∀ (j : Nat) (o' : Oper), j < i → ops[j]? = some o' → eff j = none → (∃ e b, e < i ∧ eff e = some b ∧ b < l ∧ Anc ops e j) ∨ ∀ u, MemSub u (delB mb b) → Does P ρ ops n o' (envT ops val env0 j) u (val j) u) :
    Cert P ρ ops n env0 m0 (i + 1) (l + 1) (updN val i v) (updN eff i (some l)) (memJn mem (grpM mb b es0 (G ++ [(i, kv)])) (setB mb b (.pm (es0 ++ (G ++ [(i, kv)]).map (·.2)) true)) l) (setB mb b (.pm (es0 ++ (G ++ [(i, kv)]).map (·.2)) true)) ∧
    GrpI P ρ ops n env0 (i + 1) l (updN val i v) (updN eff i (some l)) (memJn mem (grpM mb b es0 (G ++ [(i, kv)])) (setB mb b (.pm (es0 ++ (G ++ [(i, kv)]).map (·.2)) true)) l) (setB mb b (.pm (es0 ++ (G ++ [(i, kv)]).map (·.2)) true)) b kt mb es0 (G ++ [(i, kv)]) := by
  have old : ∀ {j a}, j < i → (updN eff i (some l) j = some a ↔ eff j = some a) := fun hj => by rw [updN_lt hj]
  have hGi : ∀ x ∈ G, x.1 < i := fun x hx => ((g.mbs x.1).1 ⟨x.2, hx⟩).1
  have hmem : ∀ {x}, x ∈ G ++ [(i, kv)] → x ∈ G ∨ x = (i, kv) := fun hx => by simpa using hx
  have g' : GrpI P ρ ops n env0 (i + 1) l (updN val i v) (updN eff i (some l)) (memJn mem (grpM mb b es0 (G ++ [(i, kv)])) (setB mb b (.pm (es0 ++ (G ++ [(i, kv)]).map (·.2)) true)) l) (setB mb b (.pm (es0 ++ (G ++ [(i, kv)]).map (·.2)) true)) b kt mb es0 (G ++ [(i, kv)]) := by
    refine ⟨g.pm, rfl, fun S => memJn_eq, fun j => ?_, ?_, by simp, ?_, ?_, ?_⟩
    · constructor
      · rintro ⟨x, hx⟩
        rcases hmem hx with hx | hx
        · obtain ⟨h1, h2⟩ := (g.mbs j).1 ⟨x, hx⟩
          exact ⟨by omega, (old h1).2 h2⟩
        · obtain rfl : j = i := congrArg Prod.fst hx
          exact ⟨by omega, updN_same⟩
      · rintro ⟨h1, h2⟩
        rcases lt_split h1 with h | rfl
        · obtain ⟨x, hx⟩ := (g.mbs j).2 ⟨h, (old h).1 h2⟩
          exact ⟨x, List.mem_append_left _ hx⟩
        · exact ⟨kv, by simp⟩
    · rw [List.map_append, List.nodup_append]
      refine ⟨g.nodup, by simp, fun x hx y hy => ?_⟩
      obtain ⟨z, hz, rfl⟩ := List.mem_map.1 hx
      have := hGi z hz
      simp at hy
      omega
    · intro x hx y hy hxy
      rcases hmem hx with hx | rfl <;> rcases hmem hy with hy | rfl
      · exact g.apart x hx y hy hxy
      · exact (hap x.2 (List.mem_append_right _ (List.mem_map.2 ⟨x, hx, rfl⟩))).2
      · exact (hap y.2 (List.mem_append_right _ (List.mem_map.2 ⟨y, hy, rfl⟩))).1
      · exact absurd rfl hxy
    · intro x hx e he
      rcases hmem hx with hx | rfl
      · exact g.apart0 x hx e he
      · exact (hap e (List.mem_append_left _ he)).1
    · intro x hx o' ho' u es k1 k2 k3 k4
      rcases hmem hx with hx | rfl
      · have := hGi x hx
        rw [envT_upd (by omega), updN_lt this]
        exact g.ins x hx o' ho' u es k1 k2 k3 k4
      · rw [ho] at ho'; obtain rfl := Option.some.inj ho'
        rw [envT_upd (Nat.le_refl _), updN_same]
        exact hins u es k1 k2 k3 k4
  refine ⟨⟨?_, ?_, ?_, ?_, ?_, ?_, ?_, ?_, ?_, C.slot_new ho hs⟩, g'⟩
  · intro j o' a S hj ho' ha hS
    by_cases hal : a = l
    · subst hal
      obtain ⟨x, hx⟩ := (g'.mbs j).2 ⟨hj, ha⟩
      rw [memJn_eq, memJn_eq]
      exact g'.does hx ho' hS
    · rcases lt_split hj with h | rfl
      · have h2 := (old h).1 ha
        have := C.lt j a h h2
        have hal : a < l := by omega
        rw [envT_upd (by omega), updN_lt h, memJn_lt hal, memJn_lt hal]
        exact C.does j o' a S h ho' h2 hS
      · rw [updN_same] at ha; exact absurd (Option.some.inj ha).symm hal
  · intro j a hj ha
    rcases lt_split hj with h | rfl
    · exact C.lt j a h ((old h).1 ha)
    · rw [updN_same] at ha; obtain rfl := Option.some.inj ha; omega
  · intro j o' a S hj ho' ha hpos h1 h2
    rcases lt_split hj with h | rfl
    rotate_left
    · rw [updN_same] at ha; exact nomatch ha
    rw [updN_lt h] at ha
    rw [envT_upd (by omega), updN_lt h]
    have h1' : ∀ e b, e < i → eff e = some b → Anc ops j e → b < a ∨ b = a ∧ S e = true := fun e b he hb => h1 e b (by omega) ((old he).2 hb)
    have h2' : ∀ e b, e < i → eff e = some b → Anc ops e j → a < b ∨ b = a ∧ S e = false := fun e b he hb => h2 e b (by omega) ((old he).2 hb)
    by_cases hal : a < l
    · rw [memJn_lt hal]
      refine C.reads j o' a S h ho' ha (.inr ⟨by omega, ?_⟩) h1' h2'
      rcases hpos with rfl | ⟨_, e, he, hea, heS⟩
      · omega
      · rcases lt_split he with h3 | rfl
        · exact ⟨e, h3, (old h3).1 hea, heS⟩
        · rw [updN_same] at hea; have := Option.some.inj hea; omega
    · have key : ∀ u, MemSub u (delB mb b) → Does P ρ ops n o' (envT ops val env0 j) u (val j) u := by
        rcases hr j o' h ho' ha with ⟨e, b', he, hb, hbl, hanc⟩ | hD
        · rcases h2' e b' he hb hanc with h3 | ⟨h3, _⟩ <;> omega
        · exact hD
      by_cases hal2 : a = l
      · subst hal2
        rw [memJn_eq]
        exact key _ (grpM_sub _ _ _ _ _)
      · rw [memJn_gt (by omega)]
        exact key _ (setB_sub _ _ _)
  · intro a ha
    obtain ⟨j, hj, h⟩ := C.onto a ha
    exact ⟨j, by omega, (old hj).2 h⟩
  · intro j j' a a' hj hj' h h' hlt
    rcases lt_split hj with hji | rfl <;> rcases lt_split hj' with hji' | rfl
    · exact C.chain j j' a a' hji hji' ((old hji).1 h) ((old hji').1 h') hlt
    · rw [updN_same] at h'; obtain rfl := Option.some.inj h'
      exact hall j a hji ((old hji).1 h) hlt
    · rw [updN_same] at h; obtain rfl := Option.some.inj h
      have := C.lt j' a' hji' ((old hji').1 h'); omega
    · rw [updN_same] at h h'; have := Option.some.inj h; have := Option.some.inj h'; omega
  · intro a S S' hak h h'
    by_cases hal : a < l
    · rw [memJn_lt hal]
      have h0 : ∀ j, j < i → eff j = some a → S j = true := fun j hj hja => h j (by omega) ((old hj).2 hja)
      have h0' : ∀ j, j < i → eff j = some (a + 1) → S' j = false := fun j hj hja => h' j (by omega) ((old hj).2 hja)
      by_cases hal2 : a + 1 < l
      · rw [memJn_lt hal2]
        exact C.full a S S' (by omega) h0 h0'
      · have hal3 : a + 1 = l := by omega
        rw [C.full a S S' (by omega) h0 h0', hal3, memJn_eq, g.mems]
        rw [hal3] at h' h0'
        rw [grpM_none (insL_none fun x hx => h0' x.1 (hGi x hx) ((g.mbs x.1).1 ⟨x.2, hx⟩).2)]
        rw [grpM_none (insL_none fun x hx => h' x.1 ((g'.mbs x.1).1 ⟨x.2, hx⟩).1 ((g'.mbs x.1).1 ⟨x.2, hx⟩).2)]
    · obtain rfl : a = l := by omega
      have e := insL_all (G := G ++ [(i, kv)]) (S := S) fun x hx => h x.1 ((g'.mbs x.1).1 ⟨x.2, hx⟩).1 ((g'.mbs x.1).1 ⟨x.2, hx⟩).2
      rw [memJn_eq, memJn_gt (by omega), grpM_pos (by rw [e]; simp), e]
  · intro a S S' h
    by_cases hal : a < l
    · rw [memJn_lt hal, memJn_lt hal]
      exact C.ext a S S' fun j hj hja => h j (by omega) ((old hj).2 hja)
    · by_cases hal2 : a = l
      · subst hal2
        rw [memJn_eq, memJn_eq]
        have e := insL_congr (G := G ++ [(i, kv)]) (S := S) (S' := S') fun x hx => h x.1 ((g'.mbs x.1).1 ⟨x.2, hx⟩).1 ((g'.mbs x.1).1 ⟨x.2, hx⟩).2
        unfold grpM; rw [e]
      · rw [memJn_gt (by omega), memJn_gt (by omega)]
  · intro a S h
    exact memJn_gt (by omega)
  · by_cases hl : 0 < l
    · rw [memJn_lt hl]; exact C.start
    · obtain rfl : l = 0 := by omega
      have h1 := C.start
      rw [g.mems, grpM_none (insL_none fun x _ => rfl)] at h1
      rw [memJn_eq, grpM_none (insL_none fun x _ => rfl)]
      exact h1
end step
end cert

end Go.Sy
