/-
  What is proved here: a region whose order is drawn does what its run in the order of the text says, in every order.
  Conditions: none.
-/
import Derived.Test.YtcipfcbaclfnhaaSyDraw4
namespace Go.Sy

section run
variable {P : Program} {ρ : Nat → Int} {ops : Array Oper} {n : Nat} {env0 : Env} {m0 : Mem}

/-- an operation that reads, where more of the memory is known -/
theorem does_rd' {o : Oper} {env : Env} {cf : FuncId → List V → M V} {m : Mem} {p q p1 q1 : Pc} {f : R V} {v : V} {u d : Mem} (hp : PcR ρ p) (h : (guardO o.guard (fun g => guardR ops g n env)).gives ρ m p true q) (hk : evKind o.op P cf env = .rd f) (hp1 : PcR ρ p1) (hsub : MemSub u d) (hf : f.gives ρ d p1 v q1) :
    Does P ρ ops n o env u v u := by
  intro c w a hc hm he K Q hK
  rw [if_pos (guardO_ok hp h hc he)]
  subst hc
  rw [← look_kind (ops := ops) (o := o)] at hk
  obtain ⟨_, z, h4, h5⟩ := rd_ok (hsub.rel hm) hp1 he.full hk hf
  refine .inl ?_
  unfold Oper.wp
  rw [h4]
  exact hK c w z (Step.refl hm) h5

/-- what the evaluator remembers -/
structure Mind (P : Program) (ρ : Nat → Int) (ops : Array Oper) (n : Nat) (env0 : Env) (i k : Nat) (val : Nat → V) (eff : Nat → Option Nat) (mem : Nat → (Nat → Bool) → Mem) (cur : Mem) (sn : List Sn) (ws : List Wt) : Prop where
  len : sn.length = k
  sns : ∀ a s, sn.reverse[a]? = some s → (∀ j, s.e.testBit j = true ↔ j < i ∧ eff j = some a) ∧ ∀ S : Nat → Bool, (∃ e, e < i ∧ eff e = some a ∧ S e = false) → MemSub (mem a S) s.m
  grp : ∀ s r b kt, sn = s :: r → s.g = some (b, kt) → ∃ mb es0 G, s.m = delB mb b ∧ GrpI P ρ ops n env0 i r.length val eff mem cur b kt mb es0 G
  wss : ∀ (j : Nat) (o : Oper), j < i → ops[j]? = some o → eff j = none → (∃ e b s, e < i ∧ eff e = some b ∧ Anc ops e j ∧ sn.reverse[b]? = some s ∧ s.g = none) ∨ (∀ u, Does P ρ ops n o (envT ops val env0 j) u (val j) u) ∨
    ∃ w ∈ ws, w.i = j ∧ PcR ρ w.p ∧ ∀ u d q, MemSub u d → w.f.gives ρ d w.p w.v q → Does P ρ ops n o (envT ops val env0 j) u (val j) u

theorem rev_head {s : Sn} {r : List Sn} : (s :: r).reverse[r.length]? = some s := by
  rw [List.reverse_cons, List.getElem?_append_right (by simp)]
  simp

theorem rev_tail {s : Sn} {r : List Sn} {a : Nat} (h : a < r.length) : (s :: r).reverse[a]? = r.reverse[a]? := by
  rw [List.reverse_cons, List.getElem?_append_left (by simpa using h)]

section step
variable {i k : Nat} {val : Nat → V} {eff : Nat → Option Nat} {mem : Nat → (Nat → Bool) → Mem} {cur m1 : Mem} {sn : List Sn} {ws : List Wt} {o : Oper} {v : V} {A : Nat}

/-- what comes before -/
theorem anc_of_last (C : Cert P ρ ops n env0 m0 i k val eff mem cur) (hA : ∀ b, A.testBit b = true → Anc ops i b) {t : List Sn} (hb : ∀ s r, t = s :: r → ∀ j, s.e.testBit j = true ↔ j < i ∧ eff j = some r.length) (hl : lastOk A t = true) (hk : t.length ≤ k) :
    ∀ j a, j < i → eff j = some a → a < t.length → Anc ops i j := by
  intro j a hj hja hlt
  cases t with
  | nil => exact absurd hlt (by simp)
  | cons s r =>
    have hl : subN s.e A = true := hl
    have hb := hb s r rfl
    simp only [List.length_cons] at hlt hk
    by_cases har : a = r.length
    · subst har
      exact hA _ (subN_bit hl ((hb j).2 ⟨hj, hja⟩))
    · obtain ⟨e, he, hea⟩ := C.onto r.length (by omega)
      exact (hA _ (subN_bit hl ((hb e).2 ⟨he, hea⟩))).trans (C.chain j e a r.length hj he hja hea (by omega))

theorem Mind.bits (N : Mind P ρ ops n env0 i k val eff mem cur sn ws) : ∀ s r, sn = s :: r → ∀ j, s.e.testBit j = true ↔ j < i ∧ eff j = some r.length := by
  rintro s r rfl
  exact (N.sns r.length s rev_head).1

theorem Mind.bits2 {s0 : Sn} {t : List Sn} (N : Mind P ρ ops n env0 i k val eff mem cur (s0 :: t) ws) : ∀ s r, t = s :: r → ∀ j, s.e.testBit j = true ↔ j < i ∧ eff j = some r.length := by
  rintro s r rfl
  refine (N.sns r.length s ?_).1
  rw [rev_tail (by simp)]
  exact rev_head

theorem testBit_pow {i j : Nat} : (Nat.pow 2 i).testBit j = true ↔ j = i := by
  show (2 ^ i).testBit j = true ↔ j = i
  rw [Nat.testBit_two_pow]
  simp
  exact eq_comm

/-- the memories that were, with a new level -/
theorem sns_lv (C : Cert P ρ ops n env0 m0 i k val eff mem cur) (N : Mind P ρ ops n env0 i k val eff mem cur sn ws) {s0 : Sn} (h0 : s0.e = Nat.pow 2 i) (hm : MemSub cur s0.m) :
    ∀ a s, (s0 :: sn).reverse[a]? = some s → (∀ j, s.e.testBit j = true ↔ j < i + 1 ∧ updN eff i (some k) j = some a) ∧ ∀ S : Nat → Bool, (∃ e, e < i + 1 ∧ updN eff i (some k) e = some a ∧ S e = false) → MemSub (memLv mem cur m1 i k a S) s.m := by
  intro a s hs
  have hlen := N.len
  by_cases hak : a < k
  · rw [rev_tail (by omega)] at hs
    obtain ⟨h1, h2⟩ := N.sns a s hs
    refine ⟨fun j => ?_, fun S hS => ?_⟩
    · rw [h1 j]
      constructor
      · rintro ⟨h3, h4⟩; exact ⟨by omega, by rw [updN_lt h3]; exact h4⟩
      · rintro ⟨h3, h4⟩
        rcases lt_split h3 with h5 | rfl
        · rw [updN_lt h5] at h4; exact ⟨h5, h4⟩
        · rw [updN_same] at h4; have := Option.some.inj h4; omega
    · rw [memLv_lt hak]
      obtain ⟨e, h3, h4, h5⟩ := hS
      rcases lt_split h3 with h6 | rfl
      · rw [updN_lt h6] at h4; exact h2 S ⟨e, h6, h4, h5⟩
      · rw [updN_same] at h4; have := Option.some.inj h4; omega
  · have hlt := (List.getElem?_eq_some_iff.1 hs).1
    simp only [List.length_reverse, List.length_cons] at hlt
    have hak : a = sn.length := by omega
    subst hak
    rw [rev_head] at hs
    obtain rfl := Option.some.inj hs
    rw [hlen]
    refine ⟨fun j => ?_, fun S hS => ?_⟩
    · rw [h0, testBit_pow]
      constructor
      · rintro rfl; exact ⟨by omega, updN_same⟩
      · rintro ⟨h3, h4⟩
        rcases lt_split h3 with h5 | h5
        · rw [updN_lt h5] at h4
          have := C.lt j _ h5 h4; omega
        · exact h5
    · obtain ⟨e, h3, h4, h5⟩ := hS
      rcases lt_split h3 with h6 | rfl
      · rw [updN_lt h6] at h4
        have := C.lt e _ h6 h4; omega
      · rw [memLv_no h5]; exact hm

theorem Mind.hr (N : Mind P ρ ops n env0 i k val eff mem cur sn ws) (hA : ∀ b, A.testBit b = true → Anc ops i b) (hw : ∀ w ∈ ws, bitB A w.i = true ∨ ∃ d, MemSub m1 d ∧ sameAt w.f w.v w.p d = true) :
    ∀ (j : Nat) (o' : Oper), j < i → ops[j]? = some o' → eff j = none → (∃ e b, e < i ∧ eff e = some b ∧ Anc ops e j) ∨ Anc ops i j ∨ Does P ρ ops n o' (envT ops val env0 j) m1 (val j) m1 := by
  intro j o' hj ho' ha
  rcases N.wss j o' hj ho' ha with ⟨e, b, s, he, hb, hanc, _⟩ | hany | ⟨w, hwm, rfl, hwp, hwd⟩
  · exact .inl ⟨e, b, he, hb, hanc⟩
  · exact .inr (.inr (hany m1))
  · rcases hw w hwm with h3 | ⟨d, h3, h4⟩
    · exact .inr (.inl (hA _ (bitB_iff h3)))
    · obtain ⟨q, hq⟩ := sameAt_ok (ρ := ρ) h4
      exact .inr (.inr (hwd m1 d q h3 hq))

/-- what is remembered of reads, with a new level -/
theorem Mind.wss_lv (N : Mind P ρ ops n env0 i k val eff mem cur sn ws) (hA : ∀ b, A.testBit b = true → Anc ops i b) {s0 : Sn} {ws' : List Wt} (hsub : ∀ w ∈ ws, w ∈ ws' ∨ bitB A w.i = true ∧ s0.g = none) :
    ∀ (j : Nat) (o' : Oper), j < i + 1 → ops[j]? = some o' → updN eff i (some k) j = none → (∃ e b s, e < i + 1 ∧ updN eff i (some k) e = some b ∧ Anc ops e j ∧ (s0 :: sn).reverse[b]? = some s ∧ s.g = none) ∨
      (∀ u, Does P ρ ops n o' (envT ops (updN val i v) env0 j) u (updN val i v j) u) ∨
      ∃ w ∈ ws', w.i = j ∧ PcR ρ w.p ∧ ∀ u d q, MemSub u d → w.f.gives ρ d w.p w.v q → Does P ρ ops n o' (envT ops (updN val i v) env0 j) u (updN val i v j) u := by
  intro j o' hj ho' ha
  have hlen := N.len
  rcases lt_split hj with h | rfl
  · rw [updN_lt h] at ha
    rw [envT_upd (by omega), updN_lt h]
    rcases N.wss j o' h ho' ha with ⟨e, b, s, he, hb, hanc, hs, hg⟩ | hany | ⟨w, hwm, rfl, hwp, hwd⟩
    · refine .inl ⟨e, b, s, by omega, by rw [updN_lt he]; exact hb, hanc, ?_, hg⟩
      rw [rev_tail (by have := (List.getElem?_eq_some_iff.1 hs).1; simpa using this)]; exact hs
    · exact .inr (.inl hany)
    · rcases hsub w hwm with h3 | ⟨h3, h4⟩
      · exact .inr (.inr ⟨w, h3, rfl, hwp, hwd⟩)
      · exact .inl ⟨i, k, s0, by omega, updN_same, hA _ (bitB_iff h3), by rw [← hlen]; exact rev_head, h4⟩
  · rw [updN_same] at ha; exact nomatch ha

/-- behind one more operation that writes -/
theorem Mind.addEff (C : Cert P ρ ops n env0 m0 i k val eff mem cur) (N : Mind P ρ ops n env0 i k val eff mem cur sn ws) (hA : ∀ b, A.testBit b = true → Anc ops i b) :
    Mind P ρ ops n env0 (i + 1) (k + 1) (updN val i v) (updN eff i (some k)) (memLv mem cur m1 i k) m1 (⟨Nat.pow 2 i, cur, none⟩ :: sn) (keepL (fun w => bitB A w.i) ws) := by
  refine ⟨by simp [N.len], sns_lv C N rfl (.refl _), fun s r b kt h hg => ?_, N.wss_lv hA fun w hw => ?_⟩
  · obtain ⟨rfl, _⟩ := List.cons.inj h
    exact nomatch hg
  · cases hb : bitB A w.i with
    | true => exact .inr ⟨rfl, rfl⟩
    | false => exact .inl (keepL_mem hw hb)

/-- behind the first entry of a map -/
theorem Mind.addIns (C : Cert P ρ ops n env0 m0 i k val eff mem cur) (N : Mind P ρ ops n env0 i k val eff mem cur sn ws) (hA : ∀ b, A.testBit b = true → Anc ops i b) {b : Nat} {kt : TypeId} {es : List (V × V)} {kv : V × V} (hb : PmAt cur b es) (ho : ops[i]? = some o)
    (hins : ∀ (u : Mem) (es : List (V × V)), u.nb = cur.nb → u.nt = cur.nt → PmAt u b es → (∀ e ∈ es, Apart P kt cur.nb cur.nt ρ kv.1 e.1) → Does P ρ ops n o (envT ops val env0 i) u v (setB u b (.pm (es ++ [kv]) true)))
    (hap : ∀ e ∈ es, Apart P kt cur.nb cur.nt ρ kv.1 e.1) :
    Mind P ρ ops n env0 (i + 1) (k + 1) (updN val i v) (updN eff i (some k)) (memLv mem cur (setB cur b (.pm (es ++ [kv]) true)) i k) (setB cur b (.pm (es ++ [kv]) true)) (⟨Nat.pow 2 i, delB cur b, some (b, kt)⟩ :: sn) ws := by
  refine ⟨by simp [N.len], sns_lv C N rfl (delB_sub _ _), fun s r b' kt' h hg => ?_, N.wss_lv hA fun w hw => .inl hw⟩
  obtain ⟨rfl, rfl⟩ := List.cons.inj h
  have hg : some (b, kt) = some (b', kt') := hg
  obtain ⟨rfl, rfl⟩ := Prod.mk.inj (Option.some.inj hg)
  have hlen := N.len
  refine ⟨cur, es, [(i, kv)], rfl, hb, rfl, fun S => ?_, fun j => ?_, by simp, by simp, ?_, ?_, ?_⟩
  · rw [hlen]
    cases hS : S i with
    | true => rw [memLv_yes hS, grpM_pos (by simp [insL, hS])]; simp [insL, hS]
    | false => rw [memLv_no hS, grpM_none (by simp [insL, hS])]
  · rw [hlen]
    constructor
    · rintro ⟨x, hx⟩
      have hx : (j, x) = (i, kv) := by simpa using hx
      obtain rfl : j = i := congrArg Prod.fst hx
      exact ⟨by omega, updN_same⟩
    · rintro ⟨h1, h2⟩
      rcases lt_split h1 with h3 | rfl
      · rw [updN_lt h3] at h2
        have := C.lt j _ h3 h2; omega
      · exact ⟨kv, .head _⟩
  · intro x hx y hy hne
    have hx : x = (i, kv) := by simpa using hx
    have hy : y = (i, kv) := by simpa using hy
    subst hx hy
    exact absurd rfl hne
  · intro x hx e he
    have hx : x = (i, kv) := by simpa using hx
    subst hx
    exact hap e he
  · intro x hx o' ho' u es' k1 k2 k3 k4
    have hx : x = (i, kv) := by simpa using hx
    subst hx
    rw [ho] at ho'; obtain rfl := Option.some.inj ho'
    show Does P ρ ops n o (envT ops (updN val i v) env0 i) u (updN val i v i) _
    rw [envT_upd (Nat.le_refl _), updN_same]
    exact hins u es' k1 k2 k3 k4

theorem Mind.addRead (N : Mind P ρ ops n env0 i k val eff mem cur sn ws) (ho : ops[i]? = some o) {ws' : List Wt} (hsub : ∀ w ∈ ws, w ∈ ws')
    (hw : (∀ u, Does P ρ ops n o (envT ops val env0 i) u v u) ∨ ∃ w ∈ ws', w.i = i ∧ PcR ρ w.p ∧ ∀ u d q, MemSub u d → w.f.gives ρ d w.p w.v q → Does P ρ ops n o (envT ops val env0 i) u v u) :
    Mind P ρ ops n env0 (i + 1) k (updN val i v) (updN eff i none) mem cur sn ws' := by
  have old : ∀ {j a}, j < i + 1 ∧ updN eff i none j = some a ↔ j < i ∧ eff j = some a := by
    intro j a
    constructor
    · rintro ⟨hj, h⟩
      rcases lt_split hj with h1 | rfl
      · rw [updN_lt h1] at h; exact ⟨h1, h⟩
      · rw [updN_same] at h; exact nomatch h
    · rintro ⟨hj, h⟩
      exact ⟨by omega, by rw [updN_lt hj]; exact h⟩
  refine ⟨N.len, fun a s hs => ?_, fun s r b kt h hg => ?_, fun j o' hj ho' ha => ?_⟩
  · obtain ⟨h1, h2⟩ := N.sns a s hs
    refine ⟨fun j => (h1 j).trans old.symm, fun S hS => ?_⟩
    obtain ⟨e, h3, h4, h5⟩ := hS
    obtain ⟨h6, h7⟩ := old.1 ⟨h3, h4⟩
    exact h2 S ⟨e, h6, h7, h5⟩
  · obtain ⟨mb, es0, G, h1, g⟩ := N.grp s r b kt h hg
    refine ⟨mb, es0, G, h1, g.pm, g.now, g.mems, fun j => (g.mbs j).trans old.symm, g.nodup, g.ne, g.apart, g.apart0, fun x hx o' ho' => ?_⟩
    have := ((g.mbs x.1).1 ⟨x.2, hx⟩).1
    rw [envT_upd (by omega), updN_lt this]
    exact g.ins x hx o' ho'
  · rcases lt_split hj with h | rfl
    · rw [updN_lt h] at ha
      rw [envT_upd (by omega), updN_lt h]
      rcases N.wss j o' h ho' ha with ⟨e, b, s, he, hb, hanc, hs⟩ | hany | ⟨w, hwm, hwi, hwd⟩
      · exact .inl ⟨e, b, s, by omega, by rw [updN_lt he]; exact hb, hanc, hs⟩
      · exact .inr (.inl hany)
      · exact .inr (.inr ⟨w, hsub w hwm, hwi, hwd⟩)
    · rw [ho] at ho'; obtain rfl := Option.some.inj ho'
      rw [envT_upd (Nat.le_refl _), updN_same]
      exact .inr hw

/-- behind one more entry in the last level -/
theorem Mind.addJoin {s : Sn} {r : List Sn} {b : Nat} {kt : TypeId} {mb : Mem} {es0 : List (V × V)} {G : List (Nat × (V × V))} {kv : V × V} (N : Mind P ρ ops n env0 i k val eff mem cur (s :: r) ws) (hg : s.g = some (b, kt)) (hm : s.m = delB mb b)
    (g : GrpI P ρ ops n env0 (i + 1) r.length (updN val i v) (updN eff i (some r.length)) (memJn mem (grpM mb b es0 (G ++ [(i, kv)])) m1 r.length) m1 b kt mb es0 (G ++ [(i, kv)])) :
    Mind P ρ ops n env0 (i + 1) (r.length + 1) (updN val i v) (updN eff i (some r.length)) (memJn mem (grpM mb b es0 (G ++ [(i, kv)])) m1 r.length) m1 (⟨Nat.lor s.e (Nat.pow 2 i), s.m, s.g⟩ :: r) ws := by
  have hk : k = r.length + 1 := by rw [← N.len]; rfl
  refine ⟨by simp, fun a s' hs => ?_, fun s' r' b' kt' h hg' => ?_, fun j o' hj ho' ha => ?_⟩
  · by_cases hal : a < r.length
    · rw [rev_tail hal] at hs
      obtain ⟨h1, h2⟩ := N.sns a s' (by rw [rev_tail hal]; exact hs)
      refine ⟨fun j => ?_, fun S hS => ?_⟩
      · rw [h1 j]
        constructor
        · rintro ⟨h3, h4⟩; exact ⟨by omega, by rw [updN_lt h3]; exact h4⟩
        · rintro ⟨h3, h4⟩
          rcases lt_split h3 with h5 | rfl
          · rw [updN_lt h5] at h4; exact ⟨h5, h4⟩
          · rw [updN_same] at h4; have := Option.some.inj h4; omega
      · rw [memJn_lt hal]
        obtain ⟨e, h3, h4, h5⟩ := hS
        rcases lt_split h3 with h6 | rfl
        · rw [updN_lt h6] at h4; exact h2 S ⟨e, h6, h4, h5⟩
        · rw [updN_same] at h4; have := Option.some.inj h4; omega
    · have hlt := (List.getElem?_eq_some_iff.1 hs).1
      simp only [List.length_reverse, List.length_cons] at hlt
      obtain rfl : a = r.length := by omega
      rw [rev_head] at hs
      obtain rfl := Option.some.inj hs
      obtain ⟨h1, _⟩ := N.sns r.length s rev_head
      refine ⟨fun j => ?_, fun S _ => ?_⟩
      · show (s.e ||| 2 ^ i).testBit j = true ↔ _
        have e2 : ((2 : Nat) ^ i).testBit j = true ↔ j = i := testBit_pow
        rw [Nat.testBit_or, Bool.or_eq_true, h1 j, e2]
        constructor
        · rintro (⟨h3, h4⟩ | rfl)
          · exact ⟨by omega, by rw [updN_lt h3]; exact h4⟩
          · exact ⟨by omega, updN_same⟩
        · rintro ⟨h3, h4⟩
          rcases lt_split h3 with h5 | rfl
          · rw [updN_lt h5] at h4; exact .inl ⟨h5, h4⟩
          · exact .inr rfl
      · rw [memJn_eq]
        show MemSub _ s.m
        rw [hm]
        exact grpM_sub _ _ _ _ _
  · obtain ⟨rfl, rfl⟩ := List.cons.inj h
    have hg' : s.g = some (b', kt') := hg'
    rw [hg] at hg'
    obtain ⟨rfl, rfl⟩ := Prod.mk.inj (Option.some.inj hg')
    exact ⟨mb, es0, _, hm, g⟩
  · rcases lt_split hj with h | rfl
    · rw [updN_lt h] at ha
      rw [envT_upd (by omega), updN_lt h]
      rcases N.wss j o' h ho' ha with ⟨e, b', s', he, hb, hanc, hs, hsg⟩ | hany | hw
      · have hlt := (List.getElem?_eq_some_iff.1 hs).1
        simp only [List.length_reverse, List.length_cons] at hlt
        have hbl : b' < r.length := by
          by_cases hbl : b' = r.length
          · subst hbl
            rw [rev_head] at hs
            obtain rfl := Option.some.inj hs
            rw [hg] at hsg; exact nomatch hsg
          · omega
        rw [rev_tail hbl] at hs
        exact .inl ⟨e, b', s', by omega, by rw [updN_lt he]; exact hb, hanc, by rw [rev_tail hbl]; exact hs, hsg⟩
      · exact .inr (.inl hany)
      · exact .inr (.inr hw)
    · rw [updN_same] at ha; exact nomatch ha

theorem pmOf_gives {α : Type} {u : Mem} {b : Nat} {f : List (V × V) → T α} {s : String} {r : α} (h : (pmOf (u.tr.get b) f (.fail s)).out ρ = some r) : ∃ es, PmAt u b es ∧ (f es).out ρ = some r := by
  have h : (onPm (u.tr.get b) (fun es wr => selB wr (f es) (.fail s)) (onMapB (u.tr.get b) (fun es _ wr => selB wr (f (es.map fun e => (e.1, e.2.1))) (.fail s)) (.fail s))).out ρ = some r := h
  rcases onPm_cases (b := u.tr.get b) (fun es wr => selB wr (f es) (.fail s)) (onMapB (u.tr.get b) (fun es _ wr => selB wr (f (es.map fun e => (e.1, e.2.1))) (.fail s)) (.fail s)) with ⟨es, wr, hb, he⟩ | he <;> rw [he] at h
  · obtain ⟨rfl, h1⟩ := T.out_selB h
    exact ⟨es, .inl hb, h1⟩
  · obtain ⟨es, kk, wr, hb, h1⟩ := onMapB_gives h
    obtain ⟨rfl, h2⟩ := T.out_selB h1
    exact ⟨_, .inr ⟨es, kk, hb, rfl⟩, h2⟩

theorem isG_ok {g : Option (Nat × TypeId)} {b : Nat} {kt : TypeId} (h : isG g b kt = true) : g = some (b, kt) := by
  cases g with
  | none => exact nomatch h
  | some x =>
    obtain ⟨h1, h2⟩ := andB_ok (show andB (Nat.beq x.1 b) (Nat.beq x.2 kt) = true from h)
    rw [beq_iff] at h1 h2
    rw [← h1, ← h2]
end step

/-- the run in the order of the text gives a certificate -/
theorem evDr_ok {cf : FuncId → List V → M V} (hcf : CallsOK P ρ cf) : ∀ {l : List Oper} {i k : Nat} {val : Nat → V} {eff : Nat → Option Nat} {mem : Nat → (Nat → Bool) → Mem} {cur : Mem} {sn : List Sn} {ws : List Wt} {look : Nat → Nat} {p q : Pc} {env' : Env} {m' : Mem},
    ops.toList.drop i = l → i + l.length = ops.size → (∀ j b, (look j).testBit b = true → Anc ops j b) → PcR ρ p → Cert P ρ ops n env0 m0 i k val eff mem cur → Mind P ρ ops n env0 i k val eff mem cur sn ws →
    (evDr l ops P cf n i look (envT ops val env0 i) sn ws).gives ρ cur p env' m' q →
    ∃ k' val' eff' mem', Cert P ρ ops n env0 m0 ops.size k' val' eff' mem' m' ∧ env' = envT ops val' env0 ops.size ∧ PcR ρ q
  | [], i, k, val, eff, mem, cur, sn, ws, look, p, q, env', m', hd, hi, hl, hp, C, N, h => by
    obtain ⟨rfl, rfl, rfl⟩ := M.gives_pure (show (M.pure (envT ops val env0 i)).gives ρ cur p env' m' q from h)
    have : i = ops.size := by simpa using hi
    subst this
    exact ⟨k, val, eff, mem, C, rfl, hp⟩
  | o :: l, i, k, val, eff, mem, cur, sn, ws, look, p, q, env', m', hd, hi, hl, hp, C, N, h => by
    have ho : ops[i]? = some o := by
      have : (ops.toList.drop i)[0]? = some o := by rw [hd]; rfl
      simpa using this
    have hd' : ops.toList.drop (i + 1) = l := by rw [← List.drop_drop, hd]; rfl
    have hi' : i + 1 + l.length = ops.size := by simp at hi; omega
    have hA : ∀ b, (ancOf o.after.toList look).testBit b = true → Anc ops i b := ancOf_ok hl ho _ (fun e he => by simpa using he)
    have hl' := putN_ok hl hA
    have hdst : dstAt ops i = o.dst := by unfold dstAt; rw [ho]; rfl
    have henv : ∀ v, envT ops (updN val i v) env0 (i + 1) = putE o.dst (envT ops val env0 i) v := fun v => by
      rw [envT, envT_upd (Nat.le_refl _), updN_same, hdst]
    have h : (forceN (ancOf o.after.toList look) fun A => fun m p =>
        (guardO o.guard (fun g => guardR ops g n (envT ops val env0 i)) m p).bndpq p fun w p => (Bool.rec
          (selB (slotOk o.dst n) (evDr l ops P cf n (i + 1) (putN look i A) (putE o.dst (envT ops val env0 i) undefV) sn ws m p) (.fail "a slot beyond the frame"))
          (Option.rec (Kd.rec (fun f => drRd o.dst n i A (envT ops val env0 i) sn ws f (evDr l ops P cf n (i + 1) (putN look i A)) m p)
            (fun f => drEf o.dst n i A (envT ops val env0 i) sn ws (allocM f) (evDr l ops P cf n (i + 1) (putN look i A)) m p)
            (fun f => drEf o.dst n i A (envT ops val env0 i) sn ws f (evDr l ops P cf n (i + 1) (putN look i A)) m p) (evKind o.op P cf (envT ops val env0 i)))
            (fun x => drIns P o.dst n i A (envT ops val env0 i) sn ws x (evDr l ops P cf n (i + 1) (putN look i A)) m p) (insOf o.op P (envT ops val env0 i))) w : T (Rs Env)) : M Env).gives ρ cur p env' m' q := h
    have h := (congrArg (fun x : M Env => M.gives ρ x cur p env' m' q) (forceN_eq (α := M Env) (ancOf o.after.toList look) _)).mp h
    obtain ⟨⟨w, pw⟩, p1, hg, hp1, h⟩ := T.out_bndpq hp h
    have hg : (guardO o.guard (fun g => guardR ops g n (envT ops val env0 i))).gives ρ cur p w pw := hg
    generalize ancOf o.after.toList look = A at h hA hl'
    -- an operation that writes
    have key : ∀ f : M V, (∀ (p1 q1 : Pc) (v : V) (u u' : Mem), PcR ρ p1 → f.gives ρ u p1 v u' q1 → Does P ρ ops n o (envT ops val env0 i) u v u') →
        (drEf o.dst n i A (envT ops val env0 i) sn ws f (evDr l ops P cf n (i + 1) (putN look i A)) cur p1).out ρ = some ⟨env', m', q⟩ →
        ∃ k' val' eff' mem', Cert P ρ ops n env0 m0 ops.size k' val' eff' mem' m' ∧ env' = envT ops val' env0 ops.size ∧ PcR ρ q := by
      intro f hf h
      obtain ⟨h1, h⟩ := T.out_selB h
      obtain ⟨⟨v, m1, pv⟩, p2, h2, hp2, h⟩ := T.out_bndq hp1 h
      obtain ⟨h3, h⟩ := T.out_selB h
      obtain ⟨h4, h⟩ := T.out_selB h
      have hall : ∀ j a, j < i → eff j = some a → Anc ops i j := fun j a hj hja => anc_of_last C hA N.bits h1 (Nat.le_of_eq N.len) j a hj hja (by rw [N.len]; exact C.lt j a hj hja)
      have hr := N.hr (m1 := m1) hA fun w hw => by
        rcases orB_ok (allL_ok h3 w hw) with h5 | h5
        · exact .inl h5
        · exact .inr ⟨m1, .refl _, h5⟩
      have C' := C.addLevel ho (hf p1 pv v cur m1 hp1 h2) h4 hall hr
      have N' := N.addEff (v := v) (m1 := m1) C hA
      have h : (evDr l ops P cf n (i + 1) (putN look i A) (putE o.dst (envT ops val env0 i) v) (⟨Nat.pow 2 i, cur, none⟩ :: sn) (keepL (fun w => bitB A w.i) ws)).gives ρ m1 p2 env' m' q := h
      rw [← henv v] at h
      exact evDr_ok hcf hd' hi' hl' hp2 C' N' h
    cases w with
    | false =>
      obtain ⟨h4, h⟩ := T.out_selB h
      have hno := fun u => does_no (P := P) hp hg u
      have C' := C.addRead (v := undefV) ho h4 (fun a S _ _ => hno (mem a S))
      have N' := N.addRead (v := undefV) ho (ws' := ws) (fun w hw => hw) (.inl hno)
      have h : (evDr l ops P cf n (i + 1) (putN look i A) (putE o.dst (envT ops val env0 i) undefV) sn ws).gives ρ cur p1 env' m' q := h
      rw [← henv] at h
      exact evDr_ok hcf hd' hi' hl' hp1 C' N' h
    | true =>
      cases hins : insOf o.op P (envT ops val env0 i) with
      | some x =>
        rw [hins] at h
        have h : (pmOf (cur.tr.get x.b) (fun es => selB (allL (fun e => apartK P x.kt cur.nb cur.nt p1 x.k e.1) es)
            (Option.rec (.fail "two operations with no order") (fun sn' => selB (allL (fun w => sameAt w.f w.v w.p (headM cur sn')) ws)
              (selB (slotOk o.dst n) (evDr l ops P cf n (i + 1) (putN look i A) (putE o.dst (envT ops val env0 i) undefV) sn' ws (setB cur x.b (.pm (es ++ [(x.k, x.v)]) true)) p1) (.fail "a slot beyond the frame"))
              (.fail "an operation that may have read another value")) (snIns x.b x.kt i A cur sn) : T (Rs Env)) (.fail "an entry the key")) (.fail "an entry no map")).out ρ = some ⟨env', m', q⟩ := h
        obtain ⟨es, hb, h⟩ := pmOf_gives h
        obtain ⟨h1, h⟩ := T.out_selB h
        obtain ⟨t, mp, kk, y, et, _, hmt, _⟩ := insOf_some hins
        have hkt : keyOK P x.kt = true := (mapOf_some hmt).2
        have hap : ∀ e ∈ es, Apart P x.kt cur.nb cur.nt ρ x.k e.1 ∧ Apart P x.kt cur.nb cur.nt ρ e.1 x.k := fun e he => by
          obtain ⟨h2, h3⟩ := andB_ok (allL_ok h1 e he)
          exact ⟨isNo_ok hkt hp1 h2, isNo_ok hkt hp1 h3⟩
        have hdo : ∀ (u : Mem) (es : List (V × V)), PmAt u x.b es → (∀ e ∈ es, Apart P x.kt u.nb u.nt ρ x.k e.1) → Does P ρ ops n o (envT ops val env0 i) u undefV (setB u x.b (.pm (es ++ [(x.k, x.v)]) true)) := fun u es k1 k2 => does_ins hp hg hins k1 k2
        -- a level of its own
        have lone : lastOk A sn = true → (∀ w ∈ ws, sameAt w.f w.v w.p (delB cur x.b) = true) → slotOk o.dst n = true →
            (evDr l ops P cf n (i + 1) (putN look i A) (putE o.dst (envT ops val env0 i) undefV) (⟨Nat.pow 2 i, delB cur x.b, some (x.b, x.kt)⟩ :: sn) ws).gives ρ (setB cur x.b (.pm (es ++ [(x.k, x.v)]) true)) p1 env' m' q →
            ∃ k' val' eff' mem', Cert P ρ ops n env0 m0 ops.size k' val' eff' mem' m' ∧ env' = envT ops val' env0 ops.size ∧ PcR ρ q := by
          intro hl1 hw hs h
          have hall : ∀ j a, j < i → eff j = some a → Anc ops i j := fun j a hj hja => anc_of_last C hA N.bits hl1 (Nat.le_of_eq N.len) j a hj hja (by rw [N.len]; exact C.lt j a hj hja)
          have hr := N.hr (m1 := setB cur x.b (.pm (es ++ [(x.k, x.v)]) true)) hA fun w hw' => .inr ⟨_, setB_sub _ _ _, hw w hw'⟩
          have C' := C.addLevel ho (hdo cur es hb fun e he => (hap e he).1) hs hall hr
          have N' := N.addIns (v := undefV) C hA (kt := x.kt) (kv := (x.k, x.v)) hb ho (fun u es' k1 k2 k3 k4 => hdo u es' k3 fun e he => by rw [k1, k2]; exact k4 e he) fun e he => (hap e he).1
          rw [← henv undefV] at h
          exact evDr_ok hcf hd' hi' hl' hp1 C' N' h
        cases hsn : snIns x.b x.kt i A cur sn with
        | none => rw [hsn] at h; exact nomatch (show (T.fail "two operations with no order" : T (Rs Env)).out ρ = some ⟨env', m', q⟩ from h)
        | some sn' =>
          rw [hsn] at h
          obtain ⟨h2, hrun⟩ := T.out_selB h
          obtain ⟨h3, hrun⟩ := T.out_selB hrun
          have h2 := allL_ok h2
          cases hsl : sn with
          | nil =>
            rw [hsl] at hsn
            obtain rfl := Option.some.inj (show some [⟨Nat.pow 2 i, delB cur x.b, some (x.b, x.kt)⟩] = some sn' from hsn)
            subst hsl
            exact lone rfl h2 h3 hrun
          | cons s r =>
            rw [hsl] at hsn
            have hsn : selB (andB (isG s.g x.b x.kt) (lastOk A r)) (some ((⟨Nat.lor s.e (Nat.pow 2 i), s.m, s.g⟩ : Sn) :: r)) (selB (subN s.e A) (some (⟨Nat.pow 2 i, delB cur x.b, some (x.b, x.kt)⟩ :: s :: r)) none) = some sn' := hsn
            cases hj : andB (isG s.g x.b x.kt) (lastOk A r) with
            | false =>
              rw [hj] at hsn
              have hsn : selB (subN s.e A) (some ((⟨Nat.pow 2 i, delB cur x.b, some (x.b, x.kt)⟩ : Sn) :: s :: r)) none = some sn' := hsn
              cases hsb : subN s.e A with
              | false => rw [hsb] at hsn; exact nomatch (show none = some sn' from hsn)
              | true =>
                rw [hsb] at hsn
                obtain rfl := Option.some.inj (show some ((⟨Nat.pow 2 i, delB cur x.b, some (x.b, x.kt)⟩ : Sn) :: s :: r) = some sn' from hsn)
                subst hsl
                exact lone hsb h2 h3 hrun
            | true =>
              rw [hj] at hsn
              obtain rfl := Option.some.inj (show some ((⟨Nat.lor s.e (Nat.pow 2 i), s.m, s.g⟩ : Sn) :: r) = some sn' from hsn)
              obtain ⟨hj1, hj2⟩ := andB_ok hj
              have hgs := isG_ok hj1
              subst hsl
              obtain ⟨mb, es0, G, hm, g⟩ := N.grp s r x.b x.kt rfl hgs
              have hk : k = r.length + 1 := by rw [← N.len]; rfl
              subst hk
              have hesG : es = es0 ++ G.map (·.2) := by
                have hc : cur.tr.get x.b = some (.pm (es0 ++ G.map (·.2)) true) := by rw [g.now, setB_get, if_pos rfl]
                rcases hb with hb | ⟨es1, k1, hb, _⟩
                · rw [hc] at hb
                  simp at hb
                  exact hb.symm
                · rw [hc] at hb; simp at hb
              have hnb : cur.nb = mb.nb ∧ cur.nt = mb.nt := by rw [g.now]; exact ⟨rfl, rfl⟩
              have hm1 : setB cur x.b (.pm (es ++ [(x.k, x.v)]) true) = setB mb x.b (.pm (es0 ++ (G ++ [(i, (x.k, x.v))]).map (·.2)) true) := by
                rw [g.now, setB_setB, hesG]
                simp
              have h2' : ∀ w ∈ ws, sameAt w.f w.v w.p (delB mb x.b) = true := fun w hw => by rw [← hm]; exact h2 w hw
              obtain ⟨C', g'⟩ := C.addJoin g ho h3 (kv := (x.k, x.v)) (v := undefV)
                (fun u es' k1 k2 k3 k4 => hdo u es' k3 fun e he => by rw [k1, k2]; exact k4 e he)
                (fun e he => by rw [← hesG] at he; rw [← hnb.1, ← hnb.2]; exact hap e he)
                (fun j a hj hja hal => anc_of_last C hA N.bits2 hj2 (by omega) j a hj hja hal)
                (fun j o' hj ho' ha => by
                  rcases N.wss j o' hj ho' ha with ⟨e, b', s', he, hb', hanc, hs, hsg⟩ | hany | ⟨w, hwm, rfl, hwp, hwd⟩
                  · refine .inl ⟨e, b', he, hb', ?_, hanc⟩
                    have := C.lt e b' he hb'
                    by_cases hbl : b' = r.length
                    · subst hbl
                      rw [rev_head] at hs
                      obtain rfl := Option.some.inj hs
                      rw [hgs] at hsg; exact nomatch hsg
                    · omega
                  · exact .inr fun u _ => hany u
                  · obtain ⟨q1, hq1⟩ := sameAt_ok (ρ := ρ) (h2' w hwm)
                    exact .inr fun u hu => hwd u _ q1 hu hq1)
              have N' := N.addJoin hgs hm g'
              have h : (evDr l ops P cf n (i + 1) (putN look i A) (putE o.dst (envT ops val env0 i) undefV) (⟨Nat.lor s.e (Nat.pow 2 i), s.m, s.g⟩ :: r) ws).gives ρ (setB cur x.b (.pm (es ++ [(x.k, x.v)]) true)) p1 env' m' q := hrun
              rw [← henv undefV, hm1] at h
              exact evDr_ok hcf hd' hi' hl' hp1 C' N' h
      | none =>
      rw [hins] at h
      cases hk : evKind o.op P cf (envT ops val env0 i) with
      | al f =>
        rw [hk] at h
        exact key (allocM f) (fun p1 q1 v u u' hp1 hf => does_al hp hg hk hp1 hf) h
      | ef f =>
        rw [hk] at h
        exact key f (fun p1 q1 v u u' hp1 hf => does_ef hcf hp hg hk hp1 hf) h
      | rd f =>
        rw [hk] at h
        obtain ⟨⟨v, pv⟩, p2, h2, hp2, h⟩ := T.out_bndpq hp1 (show ((f cur p1).bndpq p1 fun v p => selB (allL (fun s => orB (subN s.e A) (sameAt f v p s.m)) sn)
          (selB (slotOk o.dst n) (evDr l ops P cf n (i + 1) (putN look i A) (putE o.dst (envT ops val env0 i) v) sn (⟨i, f, v, p⟩ :: ws) cur p) (.fail "a slot beyond the frame"))
          (.fail "an operation that may read another value")).out ρ = some ⟨env', m', q⟩ from h)
        obtain ⟨h3, h⟩ := T.out_selB h
        obtain ⟨h4, h⟩ := T.out_selB h
        have hdo : ∀ (p1 q1 : Pc) (u d : Mem), PcR ρ p1 → MemSub u d → f.gives ρ d p1 v q1 → Does P ρ ops n o (envT ops val env0 i) u v u := fun p1 q1 u d hp1 hs hf => does_rd' hp hg hk hp1 hs hf
        have C' := C.addRead (v := v) ho h4 (fun a S hpos hpre => by
            rcases hpos with rfl | ⟨hlt, e, he, hea, heS⟩
            · rw [C.top a S (Nat.le_refl _)]
              exact hdo p1 pv cur cur hp1 (.refl _) h2
            · have hs1 : a < sn.reverse.length := by simpa [N.len] using hlt
              obtain ⟨g1, g2⟩ := N.sns a _ (List.getElem?_eq_getElem hs1)
              have hsm : sn.reverse[a] ∈ sn := List.mem_reverse.1 (List.getElem_mem _)
              rcases orB_ok (allL_ok h3 _ hsm) with hb | hb
              · have := hpre e a he hea (hA _ (subN_bit hb ((g1 e).2 ⟨he, hea⟩)))
                rcases this with h5 | ⟨_, h5⟩
                · omega
                · rw [heS] at h5; exact nomatch h5
              · obtain ⟨q1, hq1⟩ := sameAt_ok (ρ := ρ) hb
                exact hdo p2 q1 _ _ hp2 (g2 S ⟨e, he, hea, heS⟩) hq1)
        have N' := N.addRead (v := v) ho (ws' := ⟨i, f, v, p2⟩ :: ws) (fun w hw => .tail _ hw) (.inr ⟨_, .head _, rfl, hp2, fun u d q1 hs hq1 => hdo p2 q1 u d hp2 hs hq1⟩)
        have h : (evDr l ops P cf n (i + 1) (putN look i A) (putE o.dst (envT ops val env0 i) v) sn (⟨i, f, v, p2⟩ :: ws)).gives ρ cur p2 env' m' q := h
        rw [← henv] at h
        exact evDr_ok hcf hd' hi' hl' hp2 C' N' h

/-- the slots behind the operations of 'S' -/
noncomputable def envS (ops : Array Oper) (val : Nat → V) (env0 : Env) (S : Nat → Bool) : Nat → Env
  | 0 => env0
  | j + 1 => selB (S j) (putE (dstAt ops j) (envS ops val env0 S j) (val j)) (envS ops val env0 S j)

theorem putE_ne {d : Option Nat} {env : Env} {v : V} {t : Nat} (h : d ≠ some t) : putE d env v t = env t := by
  cases d with
  | none => rfl
  | some d =>
    show (Bool.rec (env t) v (Nat.beq t d) : V) = env t
    cases hb : Nat.beq t d with
    | false => rfl
    | true => rw [beq_iff] at hb; subst hb; exact absurd rfl h

theorem putE_eq {env : Env} {v : V} {t : Nat} : putE (some t) env v t = v := by
  show (Bool.rec (env t) v (Nat.beq t t) : V) = v
  rw [(beq_iff t t).2 rfl]

variable {val : Nat → V}

theorem envS_congr {S S' : Nat → Bool} {t : Nat} : ∀ {N : Nat}, (∀ j, j < N → dstAt ops j = some t → S' j = S j) → envS ops val env0 S' N t = envS ops val env0 S N t
  | 0, _ => rfl
  | N + 1, h => by
    have ih := envS_congr (N := N) fun j hj => h j (by omega)
    rw [envS, envS]
    by_cases hd : dstAt ops N = some t
    · rw [h N (by omega) hd]
      cases S N with
      | false => exact ih
      | true =>
        show putE (dstAt ops N) _ (val N) t = putE (dstAt ops N) _ (val N) t
        rw [hd, putE_eq, putE_eq]
    · have e : ∀ (b : Bool) (env : Env), selB b (putE (dstAt ops N) env (val N)) env t = env t := by
        intro b env
        cases b with
        | false => rfl
        | true => exact putE_ne hd
      rw [e, e]; exact ih

theorem envS_all : ∀ {N : Nat}, envS ops val env0 (fun _ => true) N = envT ops val env0 N
  | 0 => rfl
  | N + 1 => by rw [envS, envT, envS_all]; rfl

theorem envS_cut {i t : Nat} : ∀ {N : Nat}, i ≤ N → envS ops val env0 (fun j => decide (j < i)) N t = envT ops val env0 i t
  | 0, h => by
    have : i = 0 := by omega
    subst this; rfl
  | N + 1, h => by
    rw [envS]
    by_cases hN : N < i
    · have : i = N + 1 := by omega
      subst this
      rw [decide_eq_true hN, envT]
      have e : envS ops val env0 (fun j => decide (j < N + 1)) N = envT ops val env0 N := by
        funext t
        rw [← envS_all]
        exact envS_congr fun j hj _ => by simp; omega
      rw [e]; rfl
    · rw [decide_eq_false hN]
      exact envS_cut (by omega)

/-- one more -/
theorem envS_new {S S' : Nat → Bool} {i t : Nat} (hS' : S' i = true) (h : ∀ j, j ≠ i → S' j = S j) (hd : dstAt ops i = some t) : ∀ {N : Nat}, i < N → (∀ j, i < j → j < N → dstAt ops j = some t → S j = false) → envS ops val env0 S' N t = val i
  | N + 1, hi, hn => by
    rw [envS]
    by_cases hN : N = i
    · subst hN
      rw [hS', hd]
      exact putE_eq
    · have ih := envS_new hS' h hd (N := N) (by omega) fun j h1 h2 => hn j h1 (by omega)
      by_cases hdN : dstAt ops N = some t
      · rw [h N hN, hn N (by omega) (by omega) hdN]
        exact ih
      · cases S' N with
        | false => exact ih
        | true => show putE (dstAt ops N) _ (val N) t = val i; rw [putE_ne hdN]; exact ih

/-- where a run in some order stands -/
structure Mid (P : Program) (ρ : Nat → Int) (ops : Array Oper) (n : Nat) (env0 : Env) (k : Nat) (val : Nat → V) (eff : Nat → Option Nat) (mem : Nat → (Nat → Bool) → Mem) (c0 : Cx) (m0 : Mem) (w0 : World) (a0 : Act) (listed : Array Bool) (a : Act) (w : World) : Prop where
  size : listed.size = ops.size
  closed : ∀ j j', listed.getD j false = true → Anc ops j j' → listed.getD j' false = true
  pos : ∃ x, (x = k ∨ x < k ∧ ∃ e, e < ops.size ∧ eff e = some x ∧ listed.getD e false = false) ∧ (∀ j b, j < ops.size → eff j = some b → (b < x → listed.getD j false = true) ∧ (x < b → listed.getD j false = false)) ∧
    ∃ c, Step c0 m0 w0 c (mem x fun j => listed.getD j false) w ∧ a.tmps.size = n ∧ ∀ t, VR c (envS ops val env0 (fun j => listed.getD j false) ops.size t) (a.tmps.getD t undef)
  defers : a.defers = a0.defers

theorem Anc.lt (F : RegF ops) {i j : Nat} (h : Anc ops i j) : j < i := by
  induction h with
  | edge ho he hb => exact F.edges _ _ _ ho he hb
  | step ho he hb _ ih => exact Nat.lt_trans ih (F.edges _ _ _ ho he hb)

theorem getD_new {listed : Array Bool} {i : Nat} (hi : i < listed.size) : (listed.setIfInBounds i true).getD i false = true := by
  simp [hi]

theorem mid_step (F : RegF ops) {k : Nat} {eff : Nat → Option Nat} {mem : Nat → (Nat → Bool) → Mem} {cur : Mem} (C : Cert P ρ ops n env0 m0 ops.size k val eff mem cur) {c0 : Cx} {w0 : World} {a0 : Act} (hρ : c0.ρ = ρ) (hg0 : GlobR c0) {listed : Array Bool} {a : Act} {w : World}
    (M : Mid P ρ ops n env0 k val eff mem c0 m0 w0 a0 listed a w) {i : Nat} (hi : i ∈ Region.ready .any ops listed) {Q : Exit → Act → World → Prop} {K : Act → World → Prop}
    (hK : ∀ a' w', Mid P ρ ops n env0 k val eff mem c0 m0 w0 a0 (listed.setIfInBounds i true) a' w' → K a' w') : wpOp P ops Q i K a w := by
  obtain ⟨hnl, o, ho, hall⟩ := mem_ready.1 hi
  have hin : i < ops.size := (Array.getElem?_eq_some_iff.1 ho).1
  have hil : i < listed.size := by rw [M.size]; exact hin
  have hnl' : listed.getD i false = false := by
    have : ∀ d, listed.getD i d = listed[i] := fun d => by simp [Array.getD, hil]
    rw [this] at hnl ⊢; exact hnl
  have hdst : dstAt ops i = o.dst := by unfold dstAt; rw [ho]; rfl
  have hanc : ∀ j, Anc ops i j → listed.getD j false = true := by
    intro j hj
    cases hj with
    | edge ho' he hb => rw [ho] at ho'; simp at ho'; subst ho'; exact hall _ he hb
    | step ho' he hb h => rw [ho] at ho'; simp at ho'; subst ho'; exact M.closed _ _ (hall _ he hb) h
  have hnot : ∀ j, Anc ops j i → listed.getD j false = false := by
    intro j hj
    cases hlj : listed.getD j false with
    | false => rfl
    | true => have := M.closed j i hlj hj; rw [hnl'] at this; simp at this
  obtain ⟨x, hxk, hx, c, s, hsz, hsl⟩ := M.pos
  have hxle : x ≤ k := by rcases hxk with rfl | ⟨h, _⟩ <;> omega
  have hrho := s.le.ρ.trans hρ
  -- which operations touch a slot that this one looks at, or writes
  have apart : ∀ j t, j < ops.size → dstAt ops j = some t → (t ∈ looks ops o ∨ o.dst = some t) → j ≠ i → (listed.getD j false = decide (j < i)) := by
    intro j t hj hdj ht hne
    obtain ⟨o', ho'⟩ : ∃ o', ops[j]? = some o' := ⟨ops[j], Array.getElem?_eq_getElem hj⟩
    have hd' : o'.dst = some t := by unfold dstAt at hdj; rw [ho'] at hdj; exact hdj
    by_cases hlt : j < i
    · rw [decide_eq_true hlt]
      rcases F.apart i j o o' ho ho' hlt with h | h
      · exact hanc j h
      · exfalso
        unfold slotsApart at h
        rw [hd'] at h
        rcases ht with ht | ht
        · simp [ht] at h
        · rw [ht] at h; simp at h
    · rw [decide_eq_false hlt]
      rcases F.apart j i o' o ho' ho (by omega) with h | h
      · exact hnot j h
      · exfalso
        unfold slotsApart at h
        rw [hd'] at h
        rcases ht with ht | ht
        · simp [ht] at h
        · rw [ht] at h; simp at h
  have hlook : EnvL c n ops o (envT ops val env0 i) a := by
    refine ⟨hsz, fun t ht => ?_, hg0.mono s.le⟩
    rw [← envS_cut (N := ops.size) (by omega)]
    rw [envS_congr (S := fun j => listed.getD j false) (fun j hj hdj => ?_)]
    · exact hsl t
    · by_cases hne : j = i
      · subst hne; simp [hnl']
      · exact (apart j t hj hdj (.inl ht) hne).symm
  have hnew : ∀ (c' : Cx) (z : Value), c.le c' → VR c' (val i) z → (∀ d, o.dst = some d → d < n) → ∀ t, VR c' (envS ops val env0 (fun j => (listed.setIfInBounds i true).getD j false) ops.size t) ((a.put o.dst z).tmps.getD t undef) := by
    intro c' z hle hz hdn t
    have hS : ∀ j, j ≠ i → (listed.setIfInBounds i true).getD j false = listed.getD j false := fun j hj => getD_set_ne false (Ne.symm hj)
    by_cases hd : o.dst = some t
    · have e1 : envS ops val env0 (fun j => (listed.setIfInBounds i true).getD j false) ops.size t = val i :=
        envS_new (S := fun j => listed.getD j false) (getD_new hil) hS (by rw [hdst]; exact hd) hin fun j h1 h2 h3 => by
          rw [apart j t h2 h3 (.inr hd) (by omega)]; simp; omega
      have e2 : (a.put o.dst z).tmps.getD t undef = z := by
        rw [hd, Act.put_tmps]
        have := hdn t hd
        simp [Array.getD, hsz, this]
      rw [e1, e2]; exact hz
    · have e1 : envS ops val env0 (fun j => (listed.setIfInBounds i true).getD j false) ops.size t = envS ops val env0 (fun j => listed.getD j false) ops.size t :=
        envS_congr fun j hj hdj => hS j fun e => by subst e; rw [hdst] at hdj; exact hd hdj
      have e2 : (a.put o.dst z).tmps.getD t undef = a.tmps.getD t undef := by
        cases hdo : o.dst with
        | none => rfl
        | some d =>
          rw [Act.put_tmps]
          have : d ≠ t := fun e => hd (by rw [hdo, e])
          simp only [Array.getD_eq_getD_getElem?, Array.getElem?_setIfInBounds, if_neg this]
      rw [e1, e2]; exact (hsl t).mono hle
  have hclosed : ∀ j j', (listed.setIfInBounds i true).getD j false = true → Anc ops j j' → (listed.setIfInBounds i true).getD j' false = true := by
    intro j j' hj hjj
    by_cases hji : j = i
    · subst hji; exact getD_set_true (hanc j' hjj)
    · rw [getD_set_ne false (Ne.symm hji)] at hj
      exact getD_set_true (M.closed j j' hj hjj)
  have hdn : ∀ d, o.dst = some d → d < n := fun d hd => C.slot i d hin (by rw [hdst]; exact hd)
  have hsize : (listed.setIfInBounds i true).size = ops.size := by simpa using M.size
  unfold wpOp
  rw [ho]
  show if Region.wanted o (yielded ops a.tmps) then o.wp P a w K Q ∨ (o.asks P a w ∧ LetsOut Q) else K (a.put o.dst undef) w
  have hnext : ∀ j, (listed.setIfInBounds i true).getD j false = updN (fun j => listed.getD j false) i true j := fun j => by
    by_cases hji : j = i
    · subst hji; rw [updN_same]; exact getD_new hil
    · rw [updN_ne hji]; exact getD_set_ne false (Ne.symm hji)
  cases he : eff i with
  | none =>
    have hne : ∀ j b, eff j = some b → j ≠ i := fun j b hb e => by subst e; rw [he] at hb; exact nomatch hb
    have hsame : ∀ j b, eff j = some b → (listed.setIfInBounds i true).getD j false = listed.getD j false := fun j b hb => by rw [hnext j, updN_ne (hne j b hb)]
    have hD := C.reads i o x (fun j => listed.getD j false) hin ho he hxk
      (fun e b hen hb hia => by
        have h1 := hanc e hia
        rcases Nat.lt_trichotomy b x with h | h | h
        · exact .inl h
        · exact .inr ⟨h, h1⟩
        · rw [(hx e b hen hb).2 h] at h1; exact nomatch h1)
      (fun e b hen hb hei => by
        have h1 := hnot e hei
        rcases Nat.lt_trichotomy b x with h | h | h
        · rw [(hx e b hen hb).1 h] at h1; exact nomatch h1
        · exact .inr ⟨h, h1⟩
        · exact .inl h)
    have hm : mem x (fun j => (listed.setIfInBounds i true).getD j false) = mem x (fun j => listed.getD j false) := C.ext x _ _ fun j _ hb => hsame j x hb
    refine hD hrho s.rel hlook K Q fun c' w' z s' hz => hK _ _ ⟨hsize, hclosed, ⟨x, ?_, fun j b hj hb => ?_, c', ?_, ?_, hnew c' z s'.le hz hdn⟩, ?_⟩
    · rcases hxk with h | ⟨h, e, h1, h2, h3⟩
      · exact .inl h
      · exact .inr ⟨h, e, h1, h2, by rw [hsame e x h2]; exact h3⟩
    · rw [hsame j b hb]; exact hx j b hj hb
    · rw [hm]; exact s.trans s'
    · cases hd : o.dst <;> simp [Act.put, hsz]
    · rw [put_defers]; exact M.defers
  | some y =>
    have hyk := C.lt i y hin he
    have hyx : y = x := by
      rcases Nat.lt_trichotomy y x with h | h | h
      · rw [(hx i y hin he).1 h] at hnl'; exact nomatch hnl'
      · exact h
      · rcases hxk with rfl | ⟨_, e, h1, h2, h3⟩
        · omega
        · rw [hanc e (C.chain e i x y h1 hin h2 he h)] at h3; exact nomatch h3
    subst hyx
    have hD := C.does i o y (fun j => listed.getD j false) hin ho he hnl'
    have hm : mem y (updN (fun j => listed.getD j false) i true) = mem y (fun j => (listed.setIfInBounds i true).getD j false) := C.ext y _ _ fun j _ _ => (hnext j).symm
    rw [hm] at hD
    have hfar : ∀ j b, j < ops.size → eff j = some b → y < b → (listed.setIfInBounds i true).getD j false = false := fun j b hj hb h => by
      have hji : j ≠ i := fun e => by subst e; rw [he] at hb; have := Option.some.inj hb; omega
      rw [hnext j, updN_ne hji]; exact (hx j b hj hb).2 h
    have hnear : ∀ j b, j < ops.size → eff j = some b → b < y → (listed.setIfInBounds i true).getD j false = true := fun j b hj hb h => by
      have hji : j ≠ i := fun e => by subst e; rw [he] at hb; have := Option.some.inj hb; omega
      rw [hnext j, updN_ne hji]; exact (hx j b hj hb).1 h
    refine hD hrho s.rel hlook K Q fun c' w' z s' hz => hK _ _ ⟨hsize, hclosed, ?_, ?_⟩
    · by_cases hall : ∀ e, e < ops.size → eff e = some y → (listed.setIfInBounds i true).getD e false = true
      · refine ⟨y + 1, ?_, fun j b hj hb => ⟨fun h => ?_, fun h => hfar j b hj hb (by omega)⟩, c', ?_, ?_, hnew c' z s'.le hz hdn⟩
        · by_cases hlast : y + 1 = k
          · exact .inl hlast
          · obtain ⟨e, h1, h2⟩ := C.onto (y + 1) (by omega)
            exact .inr ⟨by omega, e, h1, h2, hfar e _ h1 h2 (by omega)⟩
        · rcases Nat.lt_or_ge b y with h1 | h1
          · exact hnear j b hj hb h1
          · obtain rfl : b = y := by omega
            exact hall j hj hb
        · rw [← C.full y _ (fun j => (listed.setIfInBounds i true).getD j false) hyk hall fun j hj hb => hfar j _ hj hb (by omega)]
          exact s.trans s'
        · cases hd : o.dst <;> simp [Act.put, hsz]
      · have hex : ∃ e, e < ops.size ∧ eff e = some y ∧ (listed.setIfInBounds i true).getD e false = false := by
          refine Classical.byContradiction fun hno => hall fun e h1 h2 => ?_
          cases hle : (listed.setIfInBounds i true).getD e false with
          | true => rfl
          | false => exact absurd ⟨e, h1, h2, hle⟩ hno
        refine ⟨y, .inr ⟨hyk, hex⟩, fun j b hj hb => ⟨hnear j b hj hb, hfar j b hj hb⟩, c', s.trans s', ?_, hnew c' z s'.le hz hdn⟩
        cases hd : o.dst <;> simp [Act.put, hsz]
    · rw [put_defers]; exact M.defers

theorem all_listed (F : RegF ops) {listed : Array Bool} (hs : listed.size = ops.size) (h : Region.ready .any ops listed = []) : ∀ (j : Nat), j < ops.size → listed.getD j false = true := by
  intro j
  induction j using Nat.strongRecOn with
  | ind j ih =>
    intro hj
    cases hl : listed.getD j false with
    | true => rfl
    | false =>
      exfalso
      have : j ∈ Region.ready .any ops listed := by
        rw [mem_ready]
        refine ⟨?_, ops[j], Array.getElem?_eq_getElem hj, fun e he hb => ?_⟩
        · have : ∀ d, listed.getD j d = listed[j]'(by omega) := fun d => by simp [Array.getD, hs, hj]
          rw [this] at hl ⊢; exact hl
        · have hlt := F.edges j ops[j] e (Array.getElem?_eq_getElem hj) he hb
          exact ih e.on hlt (by omega)
      rw [h] at this
      simp at this

theorem any_ok (F : RegF ops) {k : Nat} {eff : Nat → Option Nat} {mem : Nat → (Nat → Bool) → Mem} {cur : Mem} (C : Cert P ρ ops n env0 m0 ops.size k val eff mem cur) {c0 : Cx} {w0 : World} {a0 : Act} (hρ : c0.ρ = ρ) (hg0 : GlobR c0) {Q : Exit → Act → World → Prop}
    (hQ : ∀ a' w', (∃ c, Step c0 m0 w0 c cur w' ∧ EnvR c n (envT ops val env0 ops.size) a' ∧ a'.defers = a0.defers) → Q .normal a' w') :
    ∀ (fuel : Nat) (listed : Array Bool) (a : Act) (w : World), listed.count true + fuel = ops.size → Mid P ρ ops n env0 k val eff mem c0 m0 w0 a0 listed a w → wpAny P .any ops Q fuel listed a w := by
  have fin : ∀ (listed : Array Bool) (a : Act) (w : World), Mid P ρ ops n env0 k val eff mem c0 m0 w0 a0 listed a w → Region.ready .any ops listed = [] → Q .normal a w := by
    intro listed a w M hr
    have hall := all_listed F M.size hr
    obtain ⟨x, hxk, hx, c, s, hsz, hsl⟩ := M.pos
    have : x = k := by
      rcases hxk with h | ⟨h, e, h1, h2, h3⟩
      · exact h
      · rw [hall e h1] at h3; exact nomatch h3
    subst this
    rw [C.top x _ (Nat.le_refl _)] at s
    refine hQ a w ⟨c, s, ⟨hsz, fun t => ?_, hg0.mono s.le⟩, M.defers⟩
    rw [← envS_all, ← envS_congr (S' := fun j => listed.getD j false) (S := fun _ => true) (fun j hj _ => hall j hj)]
    exact hsl t
  intro fuel
  induction fuel with
  | zero =>
    intro listed a w hc M
    have hr : Region.ready .any ops listed = [] := by
      rw [List.eq_nil_iff_forall_not_mem]
      intro j hj
      obtain ⟨hnl, o, ho, _⟩ := mem_ready.1 hj
      have hjn : j < listed.size := by rw [M.size]; exact (Array.getElem?_eq_some_iff.1 ho).1
      have : listed.count true = listed.size := by rw [M.size]; omega
      have := Array.count_eq_size.1 this listed[j] (Array.getElem_mem _)
      rw [show listed.getD j true = listed[j] by simp [Array.getD, hjn], ← this] at hnl
      simp at hnl
    exact ⟨hr, fin listed a w M hr⟩
  | succ fuel ih =>
    intro listed a w hc M
    refine ⟨fin listed a w M, fun i hi => mid_step F C hρ hg0 M hi fun a' w' M' => ih _ a' w' ?_ M'⟩
    obtain ⟨hnl, o, ho, _⟩ := mem_ready.1 hi
    have hil : i < listed.size := by rw [M.size]; exact (Array.getElem?_eq_some_iff.1 ho).1
    have hli : listed[i] = false := by
      rw [← hnl]; simp [Array.getD, hil]
    rw [Array.setIfInBounds, dif_pos hil, Array.count_set hil, hli]
    simp
    omega

/-- a region whose order is drawn -/
theorem drawn_ok (F : RegF ops) (hP : P.follows .mixedOrders = true) {cf : FuncId → List V → M V} (hcf : CallsOK P ρ cf) {c : Cx} {m m' : Mem} {w : World} {p q : Pc} {env' : Env} {a : Act} {id : Nat} (hρ : c.ρ = ρ) (hm : MemR c m w) (hp : PcR ρ p) (he : EnvR c n env0 a)
    (h : (evDr ops.toList ops P cf n 0 (fun _ => 0) env0 [] []).gives ρ m p env' m' q) (Q : Exit → Act → World → Prop) (hQ : ∀ a' w', PcR ρ q → After c m w m' n env' a a' w' → Q .normal a' w') :
    (Code.region id ops true).wp P Q a w := by
  have C0 : Cert P ρ ops n env0 m 0 0 (fun _ => undefV) (fun _ => none) (fun _ _ => m) m :=
    ⟨fun j _ _ _ h => by omega, fun j _ h => by omega, fun j _ _ _ h => by omega, fun a h => by omega, fun j _ _ _ h => by omega, fun a _ _ h => by omega, fun _ _ _ _ => rfl, fun _ _ _ => rfl, rfl, fun j _ h => by omega⟩
  have N0 : Mind P ρ ops n env0 0 0 (fun _ => undefV) (fun _ => none) (fun _ _ => m) m [] [] :=
    ⟨rfl, fun a s hs => by simp at hs, fun s r _ _ h => by simp at h, fun j _ h => by omega⟩
  obtain ⟨k, val, eff, mem, C, r2, r4⟩ := evDr_ok hcf (m0 := m) (l := ops.toList) (i := 0) (k := 0) (val := fun _ => undefV) (eff := fun _ => none) (mem := fun _ _ => m) (cur := m) rfl (by simp) (fun j b hb => by simp at hb) hp C0 N0 h
  have hw : MemR c m { w with drawn := w.drawn + 1 } := ⟨hm.nb, hm.nt, hm.blk, hm.inj, hm.tok⟩
  have s0 : Step c m w c m { w with drawn := w.drawn + 1 } := ⟨hw, Cx.le.refl c, rfl, rfl, rfl, Nat.le_refl _, fun _ _ _ => rfl, fun _ h => .inl h⟩
  have hnone : ∀ j, (Array.replicate ops.size false).getD j false = false := fun j => by simp [Array.getD, Array.getElem_replicate]
  refine wp_region_any hP (any_ok F C hρ he.glob (a0 := a) (w0 := { w with drawn := w.drawn + 1 }) (fun a' w' hA => ?_) ops.size _ a _ (by simp [Array.count_replicate]) ⟨by simp, ?_, ⟨0, ?_, ?_, c, ?_, he.size, ?_⟩, rfl⟩)
  · obtain ⟨c', s, h1, h2⟩ := hA
    exact hQ a' w' r4 ⟨c', s0.trans s, by rw [r2]; exact h1, h2⟩
  · intro j j' hj
    rw [hnone j] at hj; exact nomatch hj
  · by_cases hk : k = 0
    · exact .inl hk.symm
    · obtain ⟨e, h1, h2⟩ := C.onto 0 (by omega)
      exact .inr ⟨by omega, e, h1, h2, hnone e⟩
  · intro j b hj _
    exact ⟨fun h => by omega, fun _ => hnone j⟩
  · have e : mem 0 (fun j => (Array.replicate ops.size false).getD j false) = m := by
      rw [C.ext 0 _ (fun _ => false) fun j _ _ => hnone j]; exact C.start
    rw [e]; exact Step.refl hw
  · intro t
    have e : envS ops val env0 (fun j => (Array.replicate ops.size false).getD j false) ops.size t = env0 t := by
      rw [envS_congr (S := fun j => decide (j < 0)) (fun j hj _ => by simp [Array.getD]), envS_cut (Nat.zero_le _)]
      rfl
    rw [e]; exact he.slot t
end run

end Go.Sy
