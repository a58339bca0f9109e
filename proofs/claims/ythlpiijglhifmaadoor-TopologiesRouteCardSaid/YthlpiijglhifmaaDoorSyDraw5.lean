/-
  What is proved here: a region whose order is drawn does what its run in the order of the text says, in every order.
  Conditions: none.
-/
import Derived.Test.YthlpiijglhifmaaDoorSyDraw4
namespace Go.Sy

section run
variable {P : Program} {ρ : Nat → Int} {ops : Array Oper} {n : Nat} {env0 : Env}

/-- the run in the order of the text gives a certificate -/
theorem evDr_ok {cf : FuncId → List V → M V} (hcf : CallsOK P ρ cf) : ∀ {l : List Oper} {i k : Nat} {val : Nat → V} {eff : Nat → Option Nat} {mem : Nat → Mem} {sn : List Sn} {ws : List Wt} {look : Nat → Nat} {p q : Pc} {env' : Env} {m' : Mem},
    ops.toList.drop i = l → i + l.length = ops.size → (∀ j b, (look j).testBit b = true → Anc ops j b) → PcR ρ p → Cert P ρ ops n env0 i k val eff mem → Mind P ρ ops n env0 i k val eff mem sn ws →
    (evDr l ops P cf n i look (envT ops val env0 i) sn ws).gives ρ (mem k) p env' m' q →
    ∃ k' val' eff' mem', Cert P ρ ops n env0 ops.size k' val' eff' mem' ∧ env' = envT ops val' env0 ops.size ∧ mem' k' = m' ∧ PcR ρ q ∧ mem' 0 = mem 0
  | [], i, k, val, eff, mem, sn, ws, look, p, q, env', m', hd, hi, hl, hp, C, N, h => by
    obtain ⟨rfl, rfl, rfl⟩ := M.gives_pure (show (M.pure (envT ops val env0 i)).gives ρ (mem k) p env' m' q from h)
    have : i = ops.size := by simpa using hi
    subst this
    exact ⟨k, val, eff, mem, C, rfl, rfl, hp, rfl⟩
  | o :: l, i, k, val, eff, mem, sn, ws, look, p, q, env', m', hd, hi, hl, hp, C, N, h => by
    have ho : ops[i]? = some o := by
      have : (ops.toList.drop i)[0]? = some o := by rw [hd]; rfl
      simpa using this
    have hd' : ops.toList.drop (i + 1) = l := by rw [← List.drop_drop, hd]; rfl
    have hi' : i + 1 + l.length = ops.size := by simp at hi; omega
    have hA : ∀ b, (ancOf o.after.toList look).testBit b = true → Anc ops i b := ancOf_ok hl ho _ (fun e he => by simpa using he)
    have hl' := putN_ok hl hA
    have hdst : dstAt ops i = o.dst := by unfold dstAt; rw [ho]; rfl
    have henv : ∀ v, envT ops (updN val i v) env0 (i + 1) = putE o.dst (envT ops val env0 i) v := fun v => by
      rw [envT, envT_upd (Nat.le_refl _), updN_same, hdst]
    have h : (forceN (ancOf o.after.toList look) fun A => fun m p =>
        (guardO o.guard (fun g => guardR ops g n (envT ops val env0 i)) m p).bndpq p fun w p => (Bool.rec
          (selB (slotOk o.dst n) (evDr l ops P cf n (i + 1) (putN look i A) (putE o.dst (envT ops val env0 i) undefV) sn ws m p) (.fail "a slot beyond the frame"))
          (Kd.rec (fun f => drRd o.dst n i A (envT ops val env0 i) sn ws f (evDr l ops P cf n (i + 1) (putN look i A)) m p)
            (fun f => drEf o.dst n i A (envT ops val env0 i) sn ws (allocM f) (evDr l ops P cf n (i + 1) (putN look i A)) m p)
            (fun f => drEf o.dst n i A (envT ops val env0 i) sn ws f (evDr l ops P cf n (i + 1) (putN look i A)) m p) (evKind o.op P cf (envT ops val env0 i))) w : T (Rs Env)) : M Env).gives ρ (mem k) p env' m' q := h
    have h := (congrArg (fun x : M Env => M.gives ρ x (mem k) p env' m' q) (forceN_eq (α := M Env) (ancOf o.after.toList look) _)).mp h
    obtain ⟨⟨w, pw⟩, p1, hg, hp1, h⟩ := T.out_bndpq hp h
    have hg : (guardO o.guard (fun g => guardR ops g n (envT ops val env0 i))).gives ρ (mem k) p w pw := hg
    -- an operation that writes
    have key : ∀ f : M V, (∀ (p1 q1 : Pc) (v : V) (u u' : Mem), PcR ρ p1 → f.gives ρ u p1 v u' q1 → Does P ρ ops n o (envT ops val env0 i) u v u') →
        (drEf o.dst n i (ancOf o.after.toList look) (envT ops val env0 i) sn ws f (evDr l ops P cf n (i + 1) (putN look i (ancOf o.after.toList look))) (mem k) p1).out ρ = some ⟨env', m', q⟩ →
        ∃ k' val' eff' mem', Cert P ρ ops n env0 ops.size k' val' eff' mem' ∧ env' = envT ops val' env0 ops.size ∧ mem' k' = m' ∧ PcR ρ q ∧ mem' 0 = mem 0 := by
      intro f hf h
      obtain ⟨h1, h⟩ := T.out_selB h
      obtain ⟨⟨v, m1, pv⟩, p2, h2, hp2, h⟩ := T.out_bndq hp1 h
      obtain ⟨h3, h⟩ := T.out_selB h
      obtain ⟨h4, h⟩ := T.out_selB h
      obtain ⟨C', N'⟩ := C.addEff N ho (hf p1 pv v (mem k) m1 hp1 h2) h4 hA h1 h3
      have h : (evDr l ops P cf n (i + 1) (putN look i (ancOf o.after.toList look)) (putE o.dst (envT ops val env0 i) v) (⟨i, mem k⟩ :: sn) (keepL (fun w => bitB (ancOf o.after.toList look) w.i) ws)).gives ρ m1 p2 env' m' q := h
      rw [← henv v] at h
      have h : (evDr l ops P cf n (i + 1) (putN look i (ancOf o.after.toList look)) (envT ops (updN val i v) env0 (i + 1)) (⟨i, mem k⟩ :: sn) (keepL (fun w => bitB (ancOf o.after.toList look) w.i) ws)).gives ρ (updN mem (k + 1) m1 (k + 1)) p2 env' m' q := by rw [updN_same]; exact h
      obtain ⟨k', val', eff', mem', r1, r2, r3, r4, r5⟩ := evDr_ok hcf hd' hi' hl' hp2 C' N' h
      exact ⟨k', val', eff', mem', r1, r2, r3, r4, by rw [r5, updN_lt (by omega)]⟩
    cases w with
    | false =>
      obtain ⟨h4, h⟩ := T.out_selB h
      have hno := fun u => does_no (P := P) hp hg u
      obtain ⟨C', N'⟩ := C.addRead (v := undefV) N ho h4 (ws' := ws) (fun w hw => hw) (fun a _ _ => hno (mem a)) (.inl hno)
      have h : (evDr l ops P cf n (i + 1) (putN look i (ancOf o.after.toList look)) (putE o.dst (envT ops val env0 i) undefV) sn ws).gives ρ (mem k) p1 env' m' q := h
      rw [← henv] at h
      exact evDr_ok hcf hd' hi' hl' hp1 C' N' h
    | true =>
      cases hk : evKind o.op P cf (envT ops val env0 i) with
      | al f =>
        rw [hk] at h
        exact key (allocM f) (fun p1 q1 v u u' hp1 hf => does_al hp hg hk hp1 hf) h
      | ef f =>
        rw [hk] at h
        exact key f (fun p1 q1 v u u' hp1 hf => does_ef hcf hp hg hk hp1 hf) h
      | rd f =>
        rw [hk] at h
        obtain ⟨⟨v, pv⟩, p2, h2, hp2, h⟩ := T.out_bndpq hp1 (show ((f (mem k) p1).bndpq p1 fun v p => selB (allL (fun s => orB (bitB (ancOf o.after.toList look) s.e) (sameAt f v p s.m)) sn)
          (selB (slotOk o.dst n) (evDr l ops P cf n (i + 1) (putN look i (ancOf o.after.toList look)) (putE o.dst (envT ops val env0 i) v) sn (⟨i, f, v, p⟩ :: ws) (mem k) p) (.fail "a slot beyond the frame"))
          (.fail "an operation that may read another value")).out ρ = some ⟨env', m', q⟩ from h)
        obtain ⟨h3, h⟩ := T.out_selB h
        obtain ⟨h4, h⟩ := T.out_selB h
        have hdo : ∀ (p1 q1 : Pc) (u : Mem), PcR ρ p1 → f.gives ρ u p1 v q1 → Does P ρ ops n o (envT ops val env0 i) u v u := fun p1 q1 u hp1 hf => does_rd hp hg hk hp1 hf
        obtain ⟨C', N'⟩ := C.addRead (v := v) N ho h4 (ws' := ⟨i, f, v, p2⟩ :: ws) (fun w hw => .tail _ hw)
          (fun a hak hpre => by
            by_cases hlt : a < k
            · obtain ⟨s, hs, hsm, hse, hsa⟩ := N.sns a hlt
              rcases orB_ok (allL_ok h3 s hs) with hb | hb
              · have := hpre s.e a hse hsa (hA _ (bitB_iff hb))
                omega
              · obtain ⟨q1, hq1⟩ := sameAt_ok (ρ := ρ) hb
                rw [← hsm]; exact hdo p2 q1 s.m hp2 hq1
            · have : a = k := by omega
              subst this
              exact hdo p1 pv (mem a) hp1 h2)
          (.inr ⟨_, .head _, rfl, hp2, fun u q1 hq1 => hdo p2 q1 u hp2 hq1⟩)
        have h : (evDr l ops P cf n (i + 1) (putN look i (ancOf o.after.toList look)) (putE o.dst (envT ops val env0 i) v) sn (⟨i, f, v, p2⟩ :: ws)).gives ρ (mem k) p2 env' m' q := h
        rw [← henv] at h
        exact evDr_ok hcf hd' hi' hl' hp2 C' N' h

/-- the slots behind the operations of 'S' -/
noncomputable def envS (ops : Array Oper) (val : Nat → V) (env0 : Env) (S : Nat → Bool) : Nat → Env
  | 0 => env0
  | j + 1 => selB (S j) (putE (dstAt ops j) (envS ops val env0 S j) (val j)) (envS ops val env0 S j)

theorem putE_ne {d : Option Nat} {env : Env} {v : V} {t : Nat} (h : d ≠ some t) : putE d env v t = env t := by
  cases d with
  | none => rfl
  | some d =>
    show (Bool.rec (env t) v (Nat.beq t d) : V) = env t
    cases hb : Nat.beq t d with
    | false => rfl
    | true => rw [beq_iff] at hb; subst hb; exact absurd rfl h

theorem putE_eq {env : Env} {v : V} {t : Nat} : putE (some t) env v t = v := by
  show (Bool.rec (env t) v (Nat.beq t t) : V) = v
  rw [(beq_iff t t).2 rfl]

variable {val : Nat → V}

theorem envS_congr {S S' : Nat → Bool} {t : Nat} : ∀ {N : Nat}, (∀ j, j < N → dstAt ops j = some t → S' j = S j) → envS ops val env0 S' N t = envS ops val env0 S N t
  | 0, _ => rfl
  | N + 1, h => by
    have ih := envS_congr (N := N) fun j hj => h j (by omega)
    rw [envS, envS]
    by_cases hd : dstAt ops N = some t
    · rw [h N (by omega) hd]
      cases S N with
      | false => exact ih
      | true =>
        show putE (dstAt ops N) _ (val N) t = putE (dstAt ops N) _ (val N) t
        rw [hd, putE_eq, putE_eq]
    · have e : ∀ (b : Bool) (env : Env), selB b (putE (dstAt ops N) env (val N)) env t = env t := by
        intro b env
        cases b with
        | false => rfl
        | true => exact putE_ne hd
      rw [e, e]; exact ih

theorem envS_all : ∀ {N : Nat}, envS ops val env0 (fun _ => true) N = envT ops val env0 N
  | 0 => rfl
  | N + 1 => by rw [envS, envT, envS_all]; rfl

theorem envS_cut {i t : Nat} : ∀ {N : Nat}, i ≤ N → envS ops val env0 (fun j => decide (j < i)) N t = envT ops val env0 i t
  | 0, h => by
    have : i = 0 := by omega
    subst this; rfl
  | N + 1, h => by
    rw [envS]
    by_cases hN : N < i
    · have : i = N + 1 := by omega
      subst this
      rw [decide_eq_true hN, envT]
      have e : envS ops val env0 (fun j => decide (j < N + 1)) N = envT ops val env0 N := by
        funext t
        rw [← envS_all]
        exact envS_congr fun j hj _ => by simp; omega
      rw [e]; rfl
    · rw [decide_eq_false hN]
      exact envS_cut (by omega)

/-- one more -/
theorem envS_new {S S' : Nat → Bool} {i t : Nat} (hS' : S' i = true) (h : ∀ j, j ≠ i → S' j = S j) (hd : dstAt ops i = some t) : ∀ {N : Nat}, i < N → (∀ j, i < j → j < N → dstAt ops j = some t → S j = false) → envS ops val env0 S' N t = val i
  | N + 1, hi, hn => by
    rw [envS]
    by_cases hN : N = i
    · subst hN
      rw [hS', hd]
      exact putE_eq
    · have ih := envS_new hS' h hd (N := N) (by omega) fun j h1 h2 => hn j h1 (by omega)
      by_cases hdN : dstAt ops N = some t
      · rw [h N hN, hn N (by omega) (by omega) hdN]
        exact ih
      · cases S' N with
        | false => exact ih
        | true => show putE (dstAt ops N) _ (val N) t = val i; rw [putE_ne hdN]; exact ih

/-- where a run in some order stands -/
structure Mid (P : Program) (ρ : Nat → Int) (ops : Array Oper) (n : Nat) (env0 : Env) (k : Nat) (val : Nat → V) (eff : Nat → Option Nat) (mem : Nat → Mem) (c0 : Cx) (w0 : World) (a0 : Act) (listed : Array Bool) (a : Act) (w : World) : Prop where
  size : listed.size = ops.size
  closed : ∀ j j', listed.getD j false = true → Anc ops j j' → listed.getD j' false = true
  pos : ∃ x, x ≤ k ∧ (∀ j b, j < ops.size → eff j = some b → (listed.getD j false = true ↔ b < x)) ∧
    ∃ c, Step c0 (mem 0) w0 c (mem x) w ∧ a.tmps.size = n ∧ ∀ t, VR c (envS ops val env0 (fun j => listed.getD j false) ops.size t) (a.tmps.getD t undef)
  defers : a.defers = a0.defers

theorem Anc.lt (F : RegF ops) {i j : Nat} (h : Anc ops i j) : j < i := by
  induction h with
  | edge ho he hb => exact F.edges _ _ _ ho he hb
  | step ho he hb _ ih => exact Nat.lt_trans ih (F.edges _ _ _ ho he hb)

theorem getD_new {listed : Array Bool} {i : Nat} (hi : i < listed.size) : (listed.setIfInBounds i true).getD i false = true := by
  simp [hi]

theorem mid_step (F : RegF ops) {k : Nat} {eff : Nat → Option Nat} {mem : Nat → Mem} (C : Cert P ρ ops n env0 ops.size k val eff mem) {c0 : Cx} {w0 : World} {a0 : Act} (hρ : c0.ρ = ρ) (hg0 : GlobR c0) {listed : Array Bool} {a : Act} {w : World}
    (M : Mid P ρ ops n env0 k val eff mem c0 w0 a0 listed a w) {i : Nat} (hi : i ∈ Region.ready .any ops listed) {Q : Exit → Act → World → Prop} {K : Act → World → Prop}
    (hK : ∀ a' w', Mid P ρ ops n env0 k val eff mem c0 w0 a0 (listed.setIfInBounds i true) a' w' → K a' w') : wpOp P ops Q i K a w := by
  obtain ⟨hnl, o, ho, hall⟩ := mem_ready.1 hi
  have hin : i < ops.size := (Array.getElem?_eq_some_iff.1 ho).1
  have hil : i < listed.size := by rw [M.size]; exact hin
  have hnl' : listed.getD i false = false := by
    have : ∀ d, listed.getD i d = listed[i] := fun d => by simp [Array.getD, hil]
    rw [this] at hnl ⊢; exact hnl
  have hdst : dstAt ops i = o.dst := by unfold dstAt; rw [ho]; rfl
  have hanc : ∀ j, Anc ops i j → listed.getD j false = true := by
    intro j hj
    cases hj with
    | edge ho' he hb => rw [ho] at ho'; simp at ho'; subst ho'; exact hall _ he hb
    | step ho' he hb h => rw [ho] at ho'; simp at ho'; subst ho'; exact M.closed _ _ (hall _ he hb) h
  have hnot : ∀ j, Anc ops j i → listed.getD j false = false := by
    intro j hj
    cases hlj : listed.getD j false with
    | false => rfl
    | true => have := M.closed j i hlj hj; rw [hnl'] at this; simp at this
  obtain ⟨x, hxk, hx, c, s, hsz, hsl⟩ := M.pos
  have hrho := s.le.ρ.trans hρ
  -- which operations touch a slot that this one looks at, or writes
  have apart : ∀ j t, j < ops.size → dstAt ops j = some t → (t ∈ looks ops o ∨ o.dst = some t) → j ≠ i → (listed.getD j false = decide (j < i)) := by
    intro j t hj hdj ht hne
    obtain ⟨o', ho'⟩ : ∃ o', ops[j]? = some o' := ⟨ops[j], Array.getElem?_eq_getElem hj⟩
    have hd' : o'.dst = some t := by unfold dstAt at hdj; rw [ho'] at hdj; exact hdj
    by_cases hlt : j < i
    · rw [decide_eq_true hlt]
      rcases F.apart i j o o' ho ho' hlt with h | h
      · exact hanc j h
      · exfalso
        unfold slotsApart at h
        rw [hd'] at h
        rcases ht with ht | ht
        · simp [ht] at h
        · rw [ht] at h; simp at h
    · rw [decide_eq_false hlt]
      rcases F.apart j i o' o ho' ho (by omega) with h | h
      · exact hnot j h
      · exfalso
        unfold slotsApart at h
        rw [hd'] at h
        rcases ht with ht | ht
        · simp [ht] at h
        · rw [ht] at h; simp at h
  have hlook : EnvL c n ops o (envT ops val env0 i) a := by
    refine ⟨hsz, fun t ht => ?_, hg0.mono s.le⟩
    rw [← envS_cut (N := ops.size) (by omega)]
    rw [envS_congr (S := fun j => listed.getD j false) (fun j hj hdj => ?_)]
    · exact hsl t
    · by_cases hne : j = i
      · subst hne; simp [hnl']
      · exact (apart j t hj hdj (.inl ht) hne).symm
  have hnew : ∀ (c' : Cx) (z : Value), c.le c' → VR c' (val i) z → (∀ d, o.dst = some d → d < n) → ∀ t, VR c' (envS ops val env0 (fun j => (listed.setIfInBounds i true).getD j false) ops.size t) ((a.put o.dst z).tmps.getD t undef) := by
    intro c' z hle hz hdn t
    have hS : ∀ j, j ≠ i → (listed.setIfInBounds i true).getD j false = listed.getD j false := fun j hj => getD_set_ne false (Ne.symm hj)
    by_cases hd : o.dst = some t
    · have e1 : envS ops val env0 (fun j => (listed.setIfInBounds i true).getD j false) ops.size t = val i :=
        envS_new (S := fun j => listed.getD j false) (getD_new hil) hS (by rw [hdst]; exact hd) hin fun j h1 h2 h3 => by
          rw [apart j t h2 h3 (.inr hd) (by omega)]; simp; omega
      have e2 : (a.put o.dst z).tmps.getD t undef = z := by
        rw [hd, Act.put_tmps]
        have := hdn t hd
        simp [Array.getD, hsz, this]
      rw [e1, e2]; exact hz
    · have e1 : envS ops val env0 (fun j => (listed.setIfInBounds i true).getD j false) ops.size t = envS ops val env0 (fun j => listed.getD j false) ops.size t :=
        envS_congr fun j hj hdj => hS j fun e => by subst e; rw [hdst] at hdj; exact hd hdj
      have e2 : (a.put o.dst z).tmps.getD t undef = a.tmps.getD t undef := by
        cases hdo : o.dst with
        | none => rfl
        | some d =>
          rw [Act.put_tmps]
          have : d ≠ t := fun e => hd (by rw [hdo, e])
          simp only [Array.getD_eq_getD_getElem?, Array.getElem?_setIfInBounds, if_neg this]
      rw [e1, e2]; exact (hsl t).mono hle
  have hclosed : ∀ j j', (listed.setIfInBounds i true).getD j false = true → Anc ops j j' → (listed.setIfInBounds i true).getD j' false = true := by
    intro j j' hj hjj
    by_cases hji : j = i
    · subst hji; exact getD_set_true (hanc j' hjj)
    · rw [getD_set_ne false (Ne.symm hji)] at hj
      exact getD_set_true (M.closed j j' hj hjj)
  have hdn : ∀ d, o.dst = some d → d < n := fun d hd => C.slot i d hin (by rw [hdst]; exact hd)
  have hsize : (listed.setIfInBounds i true).size = ops.size := by simpa using M.size
  unfold wpOp
  rw [ho]
  show if Region.wanted o (yielded ops a.tmps) then o.wp P a w K Q ∨ (o.asks P a w ∧ LetsOut Q) else K (a.put o.dst undef) w
  cases he : eff i with
  | none =>
    have hD := C.reads i o x hin ho he hxk
      (fun e b hen hb hia => (hx e b hen hb).1 (hanc e hia))
      (fun e b hen hb hei => by
        have h1 := hnot e hei
        have h2 := hx e b hen hb
        rcases Nat.lt_or_ge b x with h3 | h3
        · rw [h2.2 h3] at h1; simp at h1
        · exact h3)
    refine hD hrho s.rel hlook K Q fun c' w' z s' hz => hK _ _ ⟨hsize, hclosed, ⟨x, hxk, fun j b hj hb => ?_, c', s.trans s', ?_, hnew c' z s'.le hz hdn⟩, ?_⟩
    · have : j ≠ i := fun e => by subst e; rw [he] at hb; simp at hb
      rw [getD_set_ne false (Ne.symm this)]; exact hx j b hj hb
    · cases hd : o.dst <;> simp [Act.put, hsz]
    · rw [put_defers]; exact M.defers
  | some y =>
    obtain ⟨hyk, hD⟩ := C.does i o y hin ho he
    have hyx : y = x := by
      rcases Nat.lt_trichotomy y x with h | h | h
      · rw [(hx i y hin he).2 h] at hnl'; simp at hnl'
      · exact h
      · obtain ⟨j, hj, hjx⟩ := C.onto x (by omega)
        have h1 := hanc j (C.chain j i x y hj hin hjx he h)
        have := (hx j x hj hjx).1 h1
        omega
    subst hyx
    refine hD hrho s.rel hlook K Q fun c' w' z s' hz => hK _ _ ⟨hsize, hclosed, ⟨y + 1, by omega, fun j b hj hb => ?_, c', s.trans s', ?_, hnew c' z s'.le hz hdn⟩, ?_⟩
    · by_cases hji : j = i
      · subst hji
        rw [he] at hb; simp at hb; subst hb
        exact ⟨fun _ => by omega, fun _ => getD_new hil⟩
      · rw [getD_set_ne false (Ne.symm hji), hx j b hj hb]
        constructor
        · intro h; omega
        · intro h
          rcases Nat.lt_or_ge b y with h1 | h1
          · exact h1
          · have : b = y := by omega
            subst this
            exact absurd (C.inj j i b hj hin hb he) hji
    · cases hd : o.dst <;> simp [Act.put, hsz]
    · rw [put_defers]; exact M.defers

theorem all_listed (F : RegF ops) {listed : Array Bool} (hs : listed.size = ops.size) (h : Region.ready .any ops listed = []) : ∀ (j : Nat), j < ops.size → listed.getD j false = true := by
  intro j
  induction j using Nat.strongRecOn with
  | ind j ih =>
    intro hj
    cases hl : listed.getD j false with
    | true => rfl
    | false =>
      exfalso
      have : j ∈ Region.ready .any ops listed := by
        rw [mem_ready]
        refine ⟨?_, ops[j], Array.getElem?_eq_getElem hj, fun e he hb => ?_⟩
        · have : ∀ d, listed.getD j d = listed[j]'(by omega) := fun d => by simp [Array.getD, hs, hj]
          rw [this] at hl ⊢; exact hl
        · have hlt := F.edges j ops[j] e (Array.getElem?_eq_getElem hj) he hb
          exact ih e.on hlt (by omega)
      rw [h] at this
      simp at this

theorem any_ok (F : RegF ops) {k : Nat} {eff : Nat → Option Nat} {mem : Nat → Mem} (C : Cert P ρ ops n env0 ops.size k val eff mem) {c0 : Cx} {w0 : World} {a0 : Act} (hρ : c0.ρ = ρ) (hg0 : GlobR c0) {Q : Exit → Act → World → Prop}
    (hQ : ∀ a' w', (∃ c, Step c0 (mem 0) w0 c (mem k) w' ∧ EnvR c n (envT ops val env0 ops.size) a' ∧ a'.defers = a0.defers) → Q .normal a' w') :
    ∀ (fuel : Nat) (listed : Array Bool) (a : Act) (w : World), listed.count true + fuel = ops.size → Mid P ρ ops n env0 k val eff mem c0 w0 a0 listed a w → wpAny P .any ops Q fuel listed a w := by
  have fin : ∀ (listed : Array Bool) (a : Act) (w : World), Mid P ρ ops n env0 k val eff mem c0 w0 a0 listed a w → Region.ready .any ops listed = [] → Q .normal a w := by
    intro listed a w M hr
    have hall := all_listed F M.size hr
    obtain ⟨x, hxk, hx, c, s, hsz, hsl⟩ := M.pos
    have : x = k := by
      rcases Nat.lt_or_ge x k with h | h
      · obtain ⟨j, hj, hjx⟩ := C.onto x h
        have := (hx j x hj hjx).1 (hall j hj)
        omega
      · omega
    subst this
    refine hQ a w ⟨c, s, ⟨hsz, fun t => ?_, hg0.mono s.le⟩, M.defers⟩
    rw [← envS_all, ← envS_congr (S' := fun j => listed.getD j false) (S := fun _ => true) (fun j hj _ => hall j hj)]
    exact hsl t
  intro fuel
  induction fuel with
  | zero =>
    intro listed a w hc M
    have hr : Region.ready .any ops listed = [] := by
      rw [List.eq_nil_iff_forall_not_mem]
      intro j hj
      obtain ⟨hnl, o, ho, _⟩ := mem_ready.1 hj
      have hjn : j < listed.size := by rw [M.size]; exact (Array.getElem?_eq_some_iff.1 ho).1
      have : listed.count true = listed.size := by rw [M.size]; omega
      have := Array.count_eq_size.1 this listed[j] (Array.getElem_mem _)
      rw [show listed.getD j true = listed[j] by simp [Array.getD, hjn], ← this] at hnl
      simp at hnl
    exact ⟨hr, fin listed a w M hr⟩
  | succ fuel ih =>
    intro listed a w hc M
    refine ⟨fin listed a w M, fun i hi => mid_step F C hρ hg0 M hi fun a' w' M' => ih _ a' w' ?_ M'⟩
    obtain ⟨hnl, o, ho, _⟩ := mem_ready.1 hi
    have hil : i < listed.size := by rw [M.size]; exact (Array.getElem?_eq_some_iff.1 ho).1
    have hli : listed[i] = false := by
      rw [← hnl]; simp [Array.getD, hil]
    rw [Array.setIfInBounds, dif_pos hil, Array.count_set hil, hli]
    simp
    omega

/-- a region whose order is drawn -/
theorem drawn_ok (F : RegF ops) (hP : P.follows .mixedOrders = true) {cf : FuncId → List V → M V} (hcf : CallsOK P ρ cf) {c : Cx} {m m' : Mem} {w : World} {p q : Pc} {env' : Env} {a : Act} {id : Nat} (hρ : c.ρ = ρ) (hm : MemR c m w) (hp : PcR ρ p) (he : EnvR c n env0 a)
    (h : (evDr ops.toList ops P cf n 0 (fun _ => 0) env0 [] []).gives ρ m p env' m' q) (Q : Exit → Act → World → Prop) (hQ : ∀ a' w', PcR ρ q → After c m w m' n env' a a' w' → Q .normal a' w') :
    (Code.region id ops true).wp P Q a w := by
  have C0 : Cert P ρ ops n env0 0 0 (fun _ => undefV) (fun _ => none) (fun _ => m) :=
    ⟨fun j _ _ h => by omega, fun j _ _ h => by omega, fun a h => by omega, fun j _ _ _ h => by omega, fun j _ _ h => by omega, fun j _ h => by omega⟩
  have N0 : Mind P ρ ops n env0 0 0 (fun _ => undefV) (fun _ => none) (fun _ => m) [] [] :=
    ⟨fun a h => by omega, fun a h => by omega, fun j _ h => by omega⟩
  obtain ⟨k, val, eff, mem, C, r2, r3, r4, r5⟩ := evDr_ok hcf (l := ops.toList) (i := 0) (k := 0) (val := fun _ => undefV) (eff := fun _ => none) (mem := fun _ => m) rfl (by simp) (fun j b hb => by simp at hb) hp C0 N0 h
  have hw : MemR c m { w with drawn := w.drawn + 1 } := ⟨hm.nb, hm.nt, hm.blk, hm.inj, hm.tok⟩
  have s0 : Step c m w c m { w with drawn := w.drawn + 1 } := ⟨hw, Cx.le.refl c, rfl, rfl, rfl, Nat.le_refl _, fun _ _ _ => rfl, fun _ h => .inl h⟩
  refine wp_region_any hP (any_ok F C hρ he.glob (a0 := a) (w0 := { w with drawn := w.drawn + 1 }) (fun a' w' hA => ?_) ops.size _ a _ (by simp [Array.count_replicate]) ⟨by simp, ?_, ⟨0, Nat.zero_le _, ?_, c, ?_, he.size, ?_⟩, rfl⟩)
  · obtain ⟨c', s, h1, h2⟩ := hA
    rw [r5, r3] at s
    exact hQ a' w' r4 ⟨c', s0.trans s, by rw [r2]; exact h1, h2⟩
  · intro j j' hj
    exfalso
    simp [Array.getD, Array.getElem_replicate] at hj
  · intro j b hj _
    simp [Array.getD, Array.getElem_replicate]
  · rw [r5]; exact Step.refl hw
  · intro t
    have e : envS ops val env0 (fun j => (Array.replicate ops.size false).getD j false) ops.size t = env0 t := by
      rw [envS_congr (S := fun j => decide (j < 0)) (fun j hj _ => by simp [Array.getD]), envS_cut (Nat.zero_le _)]
      rfl
    rw [e]; exact he.slot t
end run

end Go.Sy
