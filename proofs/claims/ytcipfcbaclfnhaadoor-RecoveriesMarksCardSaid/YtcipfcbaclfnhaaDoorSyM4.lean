/-
  What is defined and proved here: a part of the symbolic evaluator: SyDraw5, SyRun3, SyRun4, SyTop, SyLaw, SyOpen, SyLaid, SyPat, SyPat2, SyJoin, SyCo, SyTab, SyLoop, SyPath, SyVc.
  Conditions: none.
-/
import Derived.Test.YtcipfcbaclfnhaaDoorSyM3
import Derived.Scope
import Derived.Below
import Derived.ProofKit
import Derived.LaidMore
import Derived.OpenShut
import Derived.Stop.Joined
/-
  What is proved here: a region whose order is drawn does what its run in the order of the text says, in every order.
  Conditions: none.
-/
namespace Go.Sy

section run
variable {P : Program} {ρ : Nat → Int} {ops : Array Oper} {n : Nat} {env0 : Env} {m0 : Mem}

/-- an operation that reads, where more of the memory is known -/
theorem does_rd' {o : Oper} {env : Env} {cf : FuncId → List V → M V} {m : Mem} {p q p1 q1 : Pc} {f : R V} {v : V} {u d : Mem} (hp : PcR ρ p) (h : (guardO o.guard (fun g => guardR ops g n env)).gives ρ m p true q) (hk : evKind o.op P cf env = .rd f) (hp1 : PcR ρ p1) (hsub : MemSub u d) (hf : f.gives ρ d p1 v q1) :
    Does P ρ ops n o env u v u := by
  intro c w a hc hm he K Q hK
  rw [if_pos (guardO_ok hp h hc he)]
  subst hc
  rw [← look_kind (ops := ops) (o := o)] at hk
  obtain ⟨_, z, h4, h5⟩ := rd_ok (hsub.rel hm) hp1 he.full hk hf
  refine .inl ?_
  unfold Oper.wp
  rw [h4]
  exact hK c w z (Step.refl hm) h5

theorem rev_head {s : Sn} {r : List Sn} : (s :: r).reverse[r.length]? = some s := by
  rw [List.reverse_cons, List.getElem?_append_right (by simp)]
  simp

theorem rev_tail {s : Sn} {r : List Sn} {a : Nat} (h : a < r.length) : (s :: r).reverse[a]? = r.reverse[a]? := by
  rw [List.reverse_cons, List.getElem?_append_left (by simpa using h)]

theorem testBit_pow {i j : Nat} : (Nat.pow 2 i).testBit j = true ↔ j = i := by
  show (2 ^ i).testBit j = true ↔ j = i
  rw [Nat.testBit_two_pow]
  simp
  exact eq_comm

/-- what the evaluator remembers of a block -/
def GrR (D : Data) (b0 : Nat) (g : Gr) : Prop :=
  ∃ s, g.b = b0 + s ∧ g.i0 = s ∧ D.cl s = .mk ∧ D.cls s = none ∧ D.con s = g.k ∧ (D.ent s).map (·.2) = g.es ∧ (∀ j, g.e.testBit j = true ↔ j = s ∨ D.cl j = .ins s) ∧ ∀ kt, g.kt = some kt → g.k = .map [] 0 true ∧ D.kt s = kt

/-- what the evaluator remembers -/
structure Mind (P : Program) (ρ : Nat → Int) (ops : Array Oper) (n : Nat) (env0 : Env) (m0 : Mem) (i k : Nat) (D : Data) (sn : List Sn) (rs : List Nat) (gs : List Gr) (ws : List Wt) : Prop where
  len : sn.length = k
  sns : ∀ a s, sn.reverse[a]? = some s → (∀ j, s.e.testBit j = true ↔ D.lev j = some a) ∧ s.m = D.base a ∧ (s.g = false → D.kd a = none)
  rss : ∀ s, alAt ops s = true → D.cls s = none → m0.nb + s ∈ rs
  grs : ∀ g ∈ gs, GrR D m0.nb g
  gnd : (gs.map (·.b)).Nodup
  wss : ∀ (j : Nat) (o : Oper), j < i → ops[j]? = some o → D.cl j = .rd → (∃ e b, D.lev e = some b ∧ Anc ops e j) ∨ (∀ u, Does P ρ ops n o (envT ops D.val env0 j) u (D.val j) u) ∨
    ∃ w ∈ ws, w.i = j ∧ PcR ρ w.p ∧ ∀ u d q, MemSub u d → w.f.gives ρ d w.p w.v q → Does P ρ ops n o (envT ops D.val env0 j) u (D.val j) u

section step
variable {i k : Nat} {D D' : Data} {cur m1 : Mem} {sn : List Sn} {rs : List Nat} {gs : List Gr} {ws : List Wt} {o : Oper} {v : V} {A : Nat}

/-- what comes before -/
theorem anc_of_last (C : Cert P ρ ops n env0 m0 i k D cur) (hA : ∀ b, A.testBit b = true → Anc ops i b) : ∀ {t : List Sn}, (∀ a s, t.reverse[a]? = some s → (∀ j, s.e.testBit j = true ↔ D.lev j = some a) ∧ s.m = D.base a ∧ (s.g = false → D.kd a = none)) → t.length ≤ k → lastOk A t = true →
    ∀ e a, D.lev e = some a → a < t.length → Anc ops i e
  | [], _, _, _, e, a, _, h => absurd h (by simp)
  | s :: r, hs, hk, hl, e, a, he, ha => by
    obtain ⟨h1, _, h3⟩ := hs r.length s rev_head
    obtain ⟨h4, h5⟩ := andB_ok (show andB (subN s.e A) (selB s.g (lastOk A r) true) = true from hl)
    simp only [List.length_cons] at ha hk
    by_cases har : a = r.length
    · subst har
      exact hA _ (subN_bit h4 ((h1 e).2 he))
    · cases hg : s.g with
      | true =>
        rw [hg] at h5
        exact anc_of_last C hA (fun a s' hs' => hs a s' (by rw [rev_tail (by have := (List.getElem?_eq_some_iff.1 hs').1; simpa using this)]; exact hs')) (by omega) h5 e a he (by omega)
      | false =>
        obtain ⟨j, hj⟩ := C.kdn r.length (by omega) (h3 hg)
        have hjl : D.lev j = some r.length := by unfold Data.lev; rw [hj]
        exact (hA _ (subN_bit h4 ((h1 j).2 hjl))).trans (C.chain j _ hj e a he (by omega))

theorem lev_same (C : Cert P ρ ops n env0 m0 i k D cur) {c : Cl} (h2 : D'.cl = updN D.cl i c) (h3 : D'.cls = D.cls) (hc : c = .rd ∨ c = .mk ∨ ∃ s, c = .ins s ∧ D.cls s = none) : D'.lev = D.lev := by
  have hi : D.cl i = .rd := C.side.fresh i (Nat.le_refl _)
  have hci : D.cls i = none := C.cfresh i (by rw [hi]; exact fun h => (nomatch h))
  funext e
  unfold Data.lev
  by_cases he : e = i
  · subst he
    rw [h2, updN_same, hi, h3]
    rcases hc with rfl | rfl | ⟨s, rfl, hs⟩
    · rfl
    · exact hci
    · exact hs
  · rw [h2, updN_ne he, h3]

theorem Mind.addSame (C : Cert P ρ ops n env0 m0 i k D cur) (N : Mind P ρ ops n env0 m0 i k D sn rs gs ws) (ho : ops[i]? = some o) {c : Cl} (h1 : D'.val = updN D.val i v) (h2 : D'.cl = updN D.cl i c) (h3 : D'.cls = D.cls) (h4 : D'.kd = D.kd) (h5 : D'.base = D.base) {gs' : List Gr} {ws' : List Wt}
    (hgs : ∀ g ∈ gs', GrR D' m0.nb g) (hgn : (gs'.map (·.b)).Nodup) (hsub : ∀ w ∈ ws, w ∈ ws')
    (hc : c = .rd ∧ ((∀ u, Does P ρ ops n o (envT ops D.val env0 i) u v u) ∨ ∃ w ∈ ws', w.i = i ∧ PcR ρ w.p ∧ ∀ u d q, MemSub u d → w.f.gives ρ d w.p w.v q → Does P ρ ops n o (envT ops D.val env0 i) u v u) ∨ c = .mk ∨ ∃ s, c = .ins s ∧ D.cls s = none) :
    Mind P ρ ops n env0 m0 (i + 1) k D' sn rs gs' ws' := by
  have hlev := lev_same C h2 h3 (hc.imp (·.1) id)
  refine ⟨N.len, fun a s hs => ?_, fun s ha hcs => ?_, hgs, hgn, fun j o' hj ho' hrd => ?_⟩
  · rw [hlev, h4, h5]; exact N.sns a s hs
  · rw [h3] at hcs; exact N.rss s ha hcs
  · rw [hlev, h1]
    rcases lt_split hj with hj | rfl
    · rw [h2, updN_lt hj] at hrd
      rw [envT_upd (Nat.le_of_lt hj), updN_lt hj]
      rcases N.wss j o' hj ho' hrd with h | h | ⟨w, hw, h⟩
      · exact .inl h
      · exact .inr (.inl h)
      · exact .inr (.inr ⟨w, hsub w hw, h⟩)
    · rw [ho] at ho'; obtain rfl := Option.some.inj ho'
      rw [envT_upd (Nat.le_refl _), updN_same]
      rw [h2, updN_same] at hrd
      rcases hc with ⟨_, h⟩ | h | ⟨s, h, _⟩
      · exact .inr h
      · rw [h] at hrd; exact nomatch hrd
      · rw [h] at hrd; exact nomatch hrd

theorem Mind.addRd (C : Cert P ρ ops n env0 m0 i k D cur) (N : Mind P ρ ops n env0 m0 i k D sn rs gs ws) (ho : ops[i]? = some o) {ws' : List Wt} (hsub : ∀ w ∈ ws, w ∈ ws')
    (hw : (∀ u, Does P ρ ops n o (envT ops D.val env0 i) u v u) ∨ ∃ w ∈ ws', w.i = i ∧ PcR ρ w.p ∧ ∀ u d q, MemSub u d → w.f.gives ρ d w.p w.v q → Does P ρ ops n o (envT ops D.val env0 i) u v u) :
    Mind P ρ ops n env0 m0 (i + 1) k { D with val := updN D.val i v, cl := updN D.cl i .rd } sn rs gs ws' := by
  have hi : D.cl i = .rd := C.side.fresh i (Nat.le_refl _)
  have e : updN D.cl i .rd = D.cl := by
    funext j
    by_cases h : j = i
    · subst h; rw [updN_same, hi]
    · exact updN_ne h
  refine N.addSame (D' := { D with val := updN D.val i v, cl := updN D.cl i .rd }) C ho (c := .rd) rfl rfl rfl rfl rfl (fun g hg => ?_) N.gnd hsub (.inl ⟨rfl, hw⟩)
  unfold GrR
  dsimp only
  rw [e]
  exact N.grs g hg

theorem Mind.addMk (C : Cert P ρ ops n env0 m0 i k D cur) (N : Mind P ρ ops n env0 m0 i k D sn rs gs ws) (ho : ops[i]? = some o) {B : Blk} {kt : Option TypeId} (hkt : ∀ t, kt = some t → B = .map [] 0 true) :
    Mind P ρ ops n env0 m0 (i + 1) k { D with val := updN D.val i v, cl := updN D.cl i .mk, con := updN D.con i B, ent := updN D.ent i [], kt := updN D.kt i (kt.getD 0) } sn rs (⟨m0.nb + i, B, kt, [], Nat.pow 2 i, i⟩ :: gs) ws := by
  have hi : D.cl i = .rd := C.side.fresh i (Nat.le_refl _)
  have hins : ∀ j s, updN D.cl i .mk j = .ins s ↔ D.cl j = .ins s := by
    intro j s
    by_cases h : j = i
    · subst h; rw [updN_same, hi]; exact ⟨fun h => (nomatch h), fun h => (nomatch h)⟩
    · rw [updN_ne h]
  have hne : ∀ g ∈ gs, g.b ≠ m0.nb + i := by
    intro g hg e
    obtain ⟨s, k1, _, k2, _⟩ := N.grs g hg
    have : s = i := by omega
    subst this
    rw [hi] at k2; exact nomatch k2
  refine N.addSame (D' := { D with val := updN D.val i v, cl := updN D.cl i .mk, con := updN D.con i B, ent := updN D.ent i [], kt := updN D.kt i (kt.getD 0) }) C ho (c := .mk) rfl rfl rfl rfl rfl (fun g hg => ?_) ?_ (fun w hw => hw) (.inr (.inl rfl))
  · rcases List.mem_cons.1 hg with rfl | hg
    · refine ⟨i, rfl, rfl, updN_same, C.cfresh i (by rw [hi]; exact fun h => (nomatch h)), updN_same, ?_, fun j => ?_, fun t ht => ?_⟩
      · dsimp only; rw [updN_same]; rfl
      · dsimp only
        rw [hins, testBit_pow]
        refine ⟨.inl, fun h => h.elim id fun h => ?_⟩
        have := (C.side.ins j i h).1
        rw [hi] at this; exact nomatch this
      · refine ⟨hkt t ht, ?_⟩
        dsimp only at ht ⊢
        rw [updN_same, ht]; rfl
    · obtain ⟨s, k1, k0, k2, k3, k4, k5, k6, k7⟩ := N.grs g hg
      have hsi : s ≠ i := by rintro rfl; rw [hi] at k2; exact nomatch k2
      refine ⟨s, k1, k0, ?_, k3, ?_, ?_, fun j => ?_, fun t ht => ?_⟩ <;> dsimp only
      · rw [updN_ne hsi]; exact k2
      · rw [updN_ne hsi]; exact k4
      · rw [updN_ne hsi]; exact k5
      · rw [hins]; exact k6 j
      · rw [updN_ne hsi]; exact k7 t ht
  · rw [List.map_cons, List.nodup_cons]
    refine ⟨fun h => ?_, N.gnd⟩
    obtain ⟨g, hg, e⟩ := List.mem_map.1 h
    exact hne g hg e

theorem mapG_eq (f : Gr → Gr) : ∀ (l : List Gr), mapG f l = l.map f
  | [] => rfl
  | g :: l => by
    show f g :: mapG f l = f g :: l.map f
    rw [mapG_eq f l]

theorem Mind.addIns (C : Cert P ρ ops n env0 m0 i k D cur) (N : Mind P ρ ops n env0 m0 i k D sn rs gs ws) (ho : ops[i]? = some o) {s : Nat} (hcl : D.cls s = none) {kv : V × V} :
    Mind P ρ ops n env0 m0 (i + 1) k { D with val := updN D.val i v, cl := updN D.cl i (.ins s), ent := updN D.ent s (D.ent s ++ [(i, kv)]) } sn rs (mapG (fun h => selB (Nat.beq h.b (m0.nb + s)) ⟨h.b, h.k, h.kt, h.es ++ [kv], Nat.lor h.e (Nat.pow 2 i), h.i0⟩ h) gs) ws := by
  have hi : D.cl i = .rd := C.side.fresh i (Nat.le_refl _)
  have hins : ∀ j t, updN D.cl i (.ins s) j = .ins t ↔ D.cl j = .ins t ∨ j = i ∧ t = s := by
    intro j t
    by_cases h : j = i
    · subst h
      rw [updN_same, hi]
      exact ⟨fun h => .inr ⟨rfl, (Cl.ins.inj h).symm⟩, fun h => h.elim (fun h => (nomatch h)) fun h => by rw [h.2]⟩
    · rw [updN_ne h]
      exact ⟨.inl, fun h' => h'.elim id fun h' => absurd h'.1 h⟩
  rw [mapG_eq]
  refine N.addSame (D' := { D with val := updN D.val i v, cl := updN D.cl i (.ins s), ent := updN D.ent s (D.ent s ++ [(i, kv)]) }) C ho (c := .ins s) rfl rfl rfl rfl rfl (fun g hg => ?_) ?_ (fun w hw => hw) (.inr (.inr ⟨s, rfl, hcl⟩))
  · obtain ⟨h, hh, rfl⟩ := List.mem_map.1 hg
    obtain ⟨t, k1, k0, k2, k3, k4, k5, k6, k7⟩ := N.grs h hh
    have hti : t ≠ i := by rintro rfl; rw [hi] at k2; exact nomatch k2
    by_cases e : t = s
    · subst e
      rw [(beq_iff _ _).2 k1]
      refine ⟨t, k1, k0, ?_, k3, k4, ?_, fun j => ?_, k7⟩ <;> dsimp only
      · rw [updN_ne hti]; exact k2
      · rw [updN_same, List.map_append, k5]; rfl
      · show (h.e ||| 2 ^ i).testBit j = true ↔ _
        have e2 : ((2 : Nat) ^ i).testBit j = true ↔ j = i := testBit_pow
        rw [Nat.testBit_or, Bool.or_eq_true, k6 j, e2, hins]
        constructor
        · rintro ((h | h) | h)
          · exact .inl h
          · exact .inr (.inl h)
          · exact .inr (.inr ⟨h, rfl⟩)
        · rintro (h | h | h)
          · exact .inl (.inl h)
          · exact .inl (.inr h)
          · exact .inr h.1
    · rw [(beq_false _ _).2 (by omega)]
      refine ⟨t, k1, k0, ?_, k3, k4, ?_, fun j => ?_, k7⟩ <;> dsimp only
      · rw [updN_ne hti]; exact k2
      · rw [updN_ne e]; exact k5
      · rw [hins, selB_false, k6 j]
        exact ⟨fun h => h.imp id .inl, fun h => h.imp id fun h => h.elim id fun h => absurd h.2 e⟩
  · have e : (gs.map fun h => selB (Nat.beq h.b (m0.nb + s)) (⟨h.b, h.k, h.kt, h.es ++ [kv], Nat.lor h.e (Nat.pow 2 i), h.i0⟩ : Gr) h).map (·.b) = gs.map (·.b) := by
      rw [List.map_map]
      refine List.map_congr_left fun h _ => ?_
      show (selB (Nat.beq h.b (m0.nb + s)) (⟨h.b, h.k, h.kt, h.es ++ [kv], Nat.lor h.e (Nat.pow 2 i), h.i0⟩ : Gr) h).b = h.b
      cases Nat.beq h.b (m0.nb + s) <;> rfl
    rw [e]; exact N.gnd

/-- behind one more operation that has an effect -/
theorem Mind.addEf (C : Cert P ρ ops n env0 m0 i k D cur) (N : Mind P ρ ops n env0 m0 i k D sn rs gs ws) (hA : ∀ b, A.testBit b = true → Anc ops i b) :
    Mind P ρ ops n env0 m0 (i + 1) (k + 1) { D with val := updN D.val i v, cl := updN D.cl i (.ef k), kd := updN D.kd k none, base := updN D.base (k + 1) m1 } (⟨Nat.pow 2 i, cur, false⟩ :: sn) rs gs (keepL (fun w => bitB A w.i) ws) := by
  have hi : D.cl i = .rd := C.side.fresh i (Nat.le_refl _)
  generalize hD' : ({ D with val := updN D.val i v, cl := updN D.cl i (.ef k), kd := updN D.kd k none, base := updN D.base (k + 1) m1 } : Data) = D'
  have h1 : D'.val = updN D.val i v := by rw [← hD']
  have h2 : D'.cl = updN D.cl i (.ef k) := by rw [← hD']
  have h3 : D'.cls = D.cls := by rw [← hD']
  have h4 : D'.kd = updN D.kd k none := by rw [← hD']
  have h5 : D'.base = updN D.base (k + 1) m1 := by rw [← hD']
  have h6 : D'.con = D.con := by rw [← hD']
  have h7 : D'.ent = D.ent := by rw [← hD']
  have h8 : D'.kt = D.kt := by rw [← hD']
  clear hD'
  have hlev : ∀ {e}, e ≠ i → D'.lev e = D.lev e := fun {e} he => by unfold Data.lev; rw [h2, updN_ne he, h3]
  have hlevi : D'.lev i = some k := by unfold Data.lev; rw [h2, updN_same]
  have hli : D.lev i = none := by unfold Data.lev; rw [hi]
  have hins : ∀ j s, updN D.cl i (.ef k) j = .ins s ↔ D.cl j = .ins s := by
    intro j s
    by_cases h : j = i
    · subst h; rw [updN_same, hi]; exact ⟨fun h => (nomatch h), fun h => (nomatch h)⟩
    · rw [updN_ne h]
  have hlen := N.len
  refine ⟨by simp [hlen], fun a s hs => ?_, fun s ha hcs => ?_, fun g hg => ?_, N.gnd, fun j o' hj ho' hrd => ?_⟩
  · by_cases hak : a = k
    · subst hak
      rw [show (⟨Nat.pow 2 i, cur, false⟩ :: sn : List Sn).reverse[a]? = some ⟨Nat.pow 2 i, cur, false⟩ by rw [← hlen]; exact rev_head] at hs
      obtain rfl := Option.some.inj hs
      rw [h4, h5, updN_same, updN_ne (by omega), C.top]
      refine ⟨fun j => ?_, rfl, fun _ => rfl⟩
      rw [testBit_pow]
      constructor
      · rintro rfl; exact hlevi
      · intro h
        by_cases he : j = i
        · exact he
        · rw [hlev he] at h
          have := C.levk h; omega
    · have hlt := (List.getElem?_eq_some_iff.1 hs).1
      simp only [List.length_reverse, List.length_cons] at hlt
      rw [rev_tail (by omega)] at hs
      obtain ⟨k1, k2, k3⟩ := N.sns a s hs
      rw [h4, h5, updN_ne hak, updN_ne (by omega)]
      refine ⟨fun j => ?_, k2, k3⟩
      rw [k1 j]
      by_cases he : j = i
      · subst he
        rw [hli, hlevi]
        exact ⟨fun h => (nomatch h), fun h => absurd (Option.some.inj h).symm hak⟩
      · rw [hlev he]
  · rw [h3] at hcs; exact N.rss s ha hcs
  · obtain ⟨s, k1, k0, k2, k3, k4, k5, k6, k7⟩ := N.grs g hg
    have hsi : s ≠ i := by rintro rfl; rw [hi] at k2; exact nomatch k2
    refine ⟨s, k1, k0, ?_, ?_, ?_, ?_, fun j => ?_, ?_⟩
    · rw [h2, updN_ne hsi]; exact k2
    · rw [h3]; exact k3
    · rw [h6]; exact k4
    · rw [h7]; exact k5
    · rw [h2, hins]; exact k6 j
    · rw [h8]; exact k7
  · rcases lt_split hj with hj | rfl
    rotate_left
    · rw [h2, updN_same] at hrd; exact nomatch hrd
    rw [h2, updN_lt hj] at hrd
    rw [h1, envT_upd (Nat.le_of_lt hj), updN_lt hj]
    rcases N.wss j o' hj ho' hrd with ⟨e, b, he, hanc⟩ | h | ⟨w, hw, rfl, h⟩
    · refine .inl ⟨e, b, ?_, hanc⟩
      rw [hlev]
      · exact he
      · have := C.levlt he; omega
    · exact .inr (.inl h)
    · cases hb : bitB A w.i with
      | true => exact .inl ⟨i, k, hlevi, hA _ (bitB_iff hb)⟩
      | false => exact .inr (.inr ⟨w, keepL_mem hw hb, rfl, h⟩)

theorem insL_true (G : List (Nat × (V × V))) : insL G (fun _ => true) = G.map (·.2) := insL_all fun _ _ => rfl

/-- a block is shut -/
theorem shut_one (C : Cert P ρ ops n env0 m0 i k D cur) (hin : i ≤ ops.size) {hd r : List Gr} {g : Gr} (N : Mind P ρ ops n env0 m0 i k D sn rs (hd ++ g :: r) ws) :
    ∃ D', Cert P ρ ops n env0 m0 i (k + 1) D' (setB cur g.b (shutB g)) ∧ Mind P ρ ops n env0 m0 i (k + 1) D' (⟨g.e, cur, true⟩ :: sn) (keepL (fun b => Nat.beq b g.b) rs) (hd ++ r) ws ∧ D'.val = D.val := by
  obtain ⟨s, k1, k0, k2, k3, k4, k5, k6, k7⟩ := N.grs g (by simp)
  have hcnt : D.cnt s (fun _ => true) = shutB g := by
    unfold Data.cnt
    rw [k2]
    show entB (D.con s) (insL (D.ent s) fun _ => true) = shutB g
    rw [insL_true, k4, k5]
    obtain ⟨b, gk, gt, es, e, i0⟩ := g
    cases es <;> rfl
  have C' := C.shut hin k2 k3
  rw [hcnt, ← k1] at C'
  refine ⟨_, C', ?_, rfl⟩
  have hlen := N.len
  generalize hD' : ({ D with cls := updN D.cls s (some k), kd := updN D.kd k (some s), base := updN D.base (k + 1) (setB cur g.b (shutB g)) } : Data) = D'
  have h1 : D'.val = D.val := by rw [← hD']
  have h2 : D'.cl = D.cl := by rw [← hD']
  have h3 : D'.cls = updN D.cls s (some k) := by rw [← hD']
  have h4 : D'.kd = updN D.kd k (some s) := by rw [← hD']
  have h5 : D'.base = updN D.base (k + 1) (setB cur g.b (shutB g)) := by rw [← hD']
  have h6 : D'.con = D.con := by rw [← hD']
  have h7 : D'.ent = D.ent := by rw [← hD']
  have h8 : D'.kt = D.kt := by rw [← hD']
  clear hD' C'
  have hlev : ∀ e b, D'.lev e = some b ↔ D.lev e = some b ∨ b = k ∧ (e = s ∨ D.cl e = .ins s) := by
    intro e b
    unfold Data.lev
    rw [h2]
    have hns : D.cls s = some b → False := fun h => by rw [k3] at h; exact nomatch h
    cases hc : D.cl e with
    | rd =>
      refine ⟨fun h => (nomatch h), fun h => h.elim (fun h => (nomatch h)) fun h => h.2.elim (fun e => ?_) fun h => (nomatch h)⟩
      subst e; rw [k2] at hc; exact nomatch hc
    | ef a =>
      refine ⟨.inl, fun h => h.elim id fun h => h.2.elim (fun e => ?_) fun h => (nomatch h)⟩
      subst e; rw [k2] at hc; exact nomatch hc
    | mk =>
      dsimp only
      rw [h3]
      by_cases e : e = s
      · subst e
        rw [updN_same]
        exact ⟨fun h => .inr ⟨(Option.some.inj h).symm, .inl rfl⟩, fun h => h.elim (fun h => (hns h).elim) fun h => by rw [h.1]⟩
      · rw [updN_ne e]
        exact ⟨.inl, fun h => h.elim id fun h => h.2.elim (fun h => absurd h e) fun h => (nomatch h)⟩
    | ins t =>
      dsimp only
      rw [h3]
      by_cases e : t = s
      · subst e
        rw [updN_same]
        exact ⟨fun h => .inr ⟨(Option.some.inj h).symm, .inr rfl⟩, fun h => h.elim (fun h => (hns h).elim) fun h => by rw [h.1]⟩
      · rw [updN_ne e]
        refine ⟨.inl, fun h => h.elim id fun h => h.2.elim (fun h' => ?_) fun h' => absurd (Cl.ins.inj h') e⟩
        subst h'; rw [k2] at hc; exact nomatch hc
  have hnd := N.gnd
  rw [List.map_append, List.map_cons, List.nodup_append] at hnd
  obtain ⟨n1, n2, n3⟩ := hnd
  rw [List.nodup_cons] at n2
  refine ⟨by simp [hlen], fun a t hs => ?_, fun t ha hcs => ?_, fun h hh => ?_, ?_, fun j o' hj ho' hrd => ?_⟩
  · by_cases hak : a = k
    · subst hak
      rw [show (⟨g.e, cur, true⟩ :: sn : List Sn).reverse[a]? = some ⟨g.e, cur, true⟩ by rw [← hlen]; exact rev_head] at hs
      obtain rfl := Option.some.inj hs
      rw [h5, updN_ne (by omega), C.top]
      refine ⟨fun j => ?_, rfl, fun h => (nomatch h)⟩
      rw [hlev]
      show g.e.testBit j = true ↔ _
      rw [k6 j]
      exact ⟨fun h => .inr ⟨rfl, h⟩, fun h => h.elim (fun h => by have := C.levk h; omega) (·.2)⟩
    · have hlt := (List.getElem?_eq_some_iff.1 hs).1
      simp only [List.length_reverse, List.length_cons] at hlt
      rw [rev_tail (by omega)] at hs
      obtain ⟨e1, e2, e3⟩ := N.sns a t hs
      rw [h4, h5, updN_ne hak, updN_ne (by omega)]
      refine ⟨fun j => ?_, e2, e3⟩
      rw [e1 j, hlev]
      exact ⟨.inl, fun h => h.elim id fun h => absurd h.1 hak⟩
  · rw [h3] at hcs
    have hts : t ≠ s := by rintro rfl; rw [updN_same] at hcs; exact nomatch hcs
    rw [updN_ne hts] at hcs
    exact keepL_mem (N.rss t ha hcs) ((beq_false _ _).2 (by omega))
  · have hb : h.b ≠ g.b := by
      rcases List.mem_append.1 hh with hh | hh
      · exact n3 _ (List.mem_map.2 ⟨h, hh, rfl⟩) _ (.head _)
      · exact fun e => n2.1 (List.mem_map.2 ⟨h, hh, e⟩)
    have hh2 : h ∈ hd ++ g :: r := by
      rcases List.mem_append.1 hh with hh | hh
      · exact List.mem_append_left _ hh
      · exact List.mem_append_right _ (.tail _ hh)
    obtain ⟨t, e1, e0, e2, e3, e4, e5, e6, e7⟩ := N.grs h hh2
    have hts : t ≠ s := by rintro rfl; exact hb (e1.trans k1.symm)
    refine ⟨t, e1, e0, ?_, ?_, ?_, ?_, fun j => ?_, ?_⟩
    · rw [h2]; exact e2
    · rw [h3, updN_ne hts]; exact e3
    · rw [h6]; exact e4
    · rw [h7]; exact e5
    · rw [h2]; exact e6 j
    · rw [h8]; exact e7
  · rw [List.map_append, List.nodup_append]
    exact ⟨n1, n2.2, fun a ha b hb => n3 a ha b (.tail _ hb)⟩
  · rw [h2] at hrd
    rw [h1]
    rcases N.wss j o' hj ho' hrd with ⟨e, b, he, hanc⟩ | h | h
    · exact .inl ⟨e, b, (hlev e b).2 (.inl he), hanc⟩
    · exact .inr (.inl h)
    · exact .inr (.inr h)

/-- blocks are shut -/
theorem shut_ok {α : Type} (hin : i ≤ ops.size) (f : Gr → Bool) : ∀ (gs : List Gr) (hd : List Gr) (kf : List Sn → List Nat → List Gr → Mem → α) (sn : List Sn) (rs : List Nat) (k : Nat) (D : Data) (cur : Mem), Cert P ρ ops n env0 m0 i k D cur → Mind P ρ ops n env0 m0 i k D sn rs (hd ++ gs) ws →
    ∃ k' D' cur' sn' rs' gs', shutW f gs kf sn rs cur = kf sn' rs' gs' cur' ∧ Cert P ρ ops n env0 m0 i k' D' cur' ∧ Mind P ρ ops n env0 m0 i k' D' sn' rs' (hd ++ gs') ws ∧ D'.val = D.val
  | [], hd, kf, sn, rs, k, D, cur, C, N => ⟨k, D, cur, sn, rs, [], rfl, C, N, rfl⟩
  | g :: gs, hd, kf, sn, rs, k, D, cur, C, N => by
    have e : shutW f (g :: gs) kf sn rs cur = selB (f g) (shutW f gs kf (⟨g.e, cur, true⟩ :: sn) (keepL (fun b => Nat.beq b g.b) rs) (setB cur g.b (shutB g))) (shutW f gs (fun sn rs gs m => kf sn rs (g :: gs) m) sn rs cur) := rfl
    rw [e]
    cases f g with
    | true =>
      obtain ⟨D1, C1, N1, h1⟩ := shut_one C hin N
      obtain ⟨k', D', cur', sn', rs', gs', h2, C2, N2, h3⟩ := shut_ok hin f gs hd kf _ _ _ D1 _ C1 N1
      exact ⟨k', D', cur', sn', rs', gs', h2, C2, N2, h3.trans h1⟩
    | false =>
      obtain ⟨k', D', cur', sn', rs', gs', h2, C2, N2, h3⟩ := shut_ok hin f gs (hd ++ [g]) (fun sn rs gs m => kf sn rs (g :: gs) m) sn rs k D cur C (by rw [List.append_assoc]; exact N)
      exact ⟨k', D', cur', sn', rs', g :: gs', h2, C2, by rw [List.append_assoc] at N2; exact N2, h3⟩
/-- on from here all is well -/
def Goes (P : Program) (ρ : Nat → Int) (ops : Array Oper) (n : Nat) (env0 : Env) (m0 : Mem) (i : Nat) (kk : Kn) (r : Rs Env) (Z : Prop) : Prop :=
  ∀ (k : Nat) (D : Data) (cur : Mem) (sn : List Sn) (rs : List Nat) (gs : List Gr) (ws : List Wt) (p : Pc), PcR ρ p → Cert P ρ ops n env0 m0 i k D cur → Mind P ρ ops n env0 m0 i k D sn rs gs ws → (kk (envT ops D.val env0 i) sn rs gs ws cur p).out ρ = some r → Z

section ev
variable {kk : Kn} {r : Rs Env} {Z : Prop} {p : Pc}

theorem env_next (ho : ops[i]? = some o) {val : Nat → V} (v : V) : envT ops (updN val i v) env0 (i + 1) = putE o.dst (envT ops val env0 i) v := by
  rw [envT, envT_upd (Nat.le_refl _), updN_same]
  unfold dstAt; rw [ho]; rfl

theorem drRdT_ok (C : Cert P ρ ops n env0 m0 i k D cur) (N : Mind P ρ ops n env0 m0 i k D sn rs gs ws) (hp : PcR ρ p) (ho : ops[i]? = some o) (hA : ∀ b, A.testBit b = true → Anc ops i b) {f : R V}
    (hdo : ∀ (p1 q1 : Pc) (u d : Mem) (v : V), PcR ρ p1 → MemSub u d → f.gives ρ d p1 v q1 → Does P ρ ops n o (envT ops D.val env0 i) u v u)
    (hk : Goes P ρ ops n env0 m0 (i + 1) kk r Z) (h : (drRdT o.dst n i A (envT ops D.val env0 i) sn rs gs ws f kk (f cur p) cur p).out ρ = some r) : Z := by
  obtain ⟨⟨v, pv⟩, p2, h2, hp2, h⟩ := T.out_bndpq hp (show ((f cur p).bndpq p fun v p => selB (allL (fun s => orB (subN s.e A) (sameAt f v p s.m)) sn)
      (selB (slotOk o.dst n) (kk (putE o.dst (envT ops D.val env0 i) v) sn rs gs (⟨i, f, v, p⟩ :: ws) cur p) (.fail "a slot beyond the frame"))
      (.fail "an operation that may read another value")).out ρ = some r from h)
  obtain ⟨h3, h⟩ := T.out_selB h
  obtain ⟨h4, h⟩ := T.out_selB h
  have C' := C.addRd (v := v) ho h4 (fun x hx hpos u hu => by
    by_cases hxk : x = k
    · subst hxk
      rw [C.top] at hu
      exact hdo p pv u cur v hp hu h2
    · rcases hpos with hpos | ⟨e, he, hn⟩
      · exact absurd hpos hxk
      · have hs1 : x < sn.reverse.length := by rw [List.length_reverse, N.len]; omega
        obtain ⟨g1, g2, _⟩ := N.sns x _ (List.getElem?_eq_getElem hs1)
        have hsm : sn.reverse[x] ∈ sn := List.mem_reverse.1 (List.getElem_mem _)
        rcases orB_ok (allL_ok h3 _ hsm) with hb | hb
        · exact absurd (hA _ (subN_bit hb ((g1 e).2 he))) hn
        · obtain ⟨q1, hq1⟩ := sameAt_ok (ρ := ρ) hb
          exact hdo p2 q1 u _ v hp2 (by rw [g2]; exact hu) hq1)
  have N' := N.addRd (v := v) C ho (ws' := ⟨i, f, v, p2⟩ :: ws) (fun w hw => .tail _ hw) (.inr ⟨_, .head _, rfl, hp2, fun u d q1 hs hq1 => hdo p2 q1 u d v hp2 hs hq1⟩)
  refine hk _ _ _ _ _ _ _ p2 hp2 C' N' ?_
  dsimp only
  rw [env_next ho]
  exact h

theorem drRd_ok (hin : i ≤ ops.size) (C : Cert P ρ ops n env0 m0 i k D cur) (N : Mind P ρ ops n env0 m0 i k D sn rs gs ws) (hp : PcR ρ p) (ho : ops[i]? = some o) (hA : ∀ b, A.testBit b = true → Anc ops i b) {f : R V}
    (hdo : ∀ (p1 q1 : Pc) (u d : Mem) (v : V), PcR ρ p1 → MemSub u d → f.gives ρ d p1 v q1 → Does P ρ ops n o (envT ops D.val env0 i) u v u)
    (hk : Goes P ρ ops n env0 m0 (i + 1) kk r Z) (h : (drRd o.dst n i A (envT ops D.val env0 i) sn rs gs ws f kk cur p).out ρ = some r) : Z := by
  have h : (T.rec (fun a => drRdT o.dst n i A (envT ops D.val env0 i) sn rs gs ws f kk (.ret a) cur p) (fun c x y _ _ => drRdT o.dst n i A (envT ops D.val env0 i) sn rs gs ws f kk (.br c x y) cur p)
      (fun _ => shutW (fun g => subN g.e A) gs (fun sn rs gs m => drRdT o.dst n i A (envT ops D.val env0 i) sn rs gs ws f kk (f m p) m p) sn rs cur) (f cur p) : T (Rs Env)).out ρ = some r := h
  cases hf : f cur p with
  | ret a => rw [hf] at h; exact drRdT_ok C N hp ho hA hdo hk (by rw [hf]; exact h)
  | br c x y => rw [hf] at h; exact drRdT_ok C N hp ho hA hdo hk (by rw [hf]; exact h)
  | fail s =>
    rw [hf] at h
    obtain ⟨k', D', cur', sn', rs', gs', h2, C2, N2, h3⟩ := shut_ok hin (fun g => subN g.e A) gs [] (fun sn rs gs m => drRdT o.dst n i A (envT ops D.val env0 i) sn rs gs ws f kk (f m p) m p) sn rs k D cur C N
    have h : (shutW (fun g => subN g.e A) gs (fun sn rs gs m => drRdT o.dst n i A (envT ops D.val env0 i) sn rs gs ws f kk (f m p) m p) sn rs cur).out ρ = some r := h
    rw [h2, ← h3] at h
    exact drRdT_ok C2 N2 hp ho hA (by rw [h3]; exact hdo) hk h

theorem drEf0_ok (C : Cert P ρ ops n env0 m0 i k D cur) (N : Mind P ρ ops n env0 m0 i k D sn rs gs ws) (hp : PcR ρ p) (ho : ops[i]? = some o) (hA : ∀ b, A.testBit b = true → Anc ops i b) {f : M V}
    (hf : ∀ (p1 q1 : Pc) (v : V) (u u' : Mem), PcR ρ p1 → f.gives ρ u p1 v u' q1 → Does P ρ ops n o (envT ops D.val env0 i) u v u')
    (hk : Goes P ρ ops n env0 m0 (i + 1) kk r Z) (h : (drEf0 o.dst n i A (envT ops D.val env0 i) ws f kk sn rs gs cur p).out ρ = some r) : Z := by
  obtain ⟨h1, h⟩ := T.out_selB h
  obtain ⟨⟨v, m1, pv⟩, p2, h2, hp2, h⟩ := T.out_bndq hp h
  obtain ⟨h3, h⟩ := T.out_selB h
  obtain ⟨h4, h⟩ := T.out_selB h
  obtain ⟨h5, h6⟩ := andB_ok h3
  have hall : ∀ e b, D.lev e = some b → Anc ops i e := fun e b he => anc_of_last C hA N.sns (Nat.le_of_eq N.len) h1 e b he (by rw [N.len]; exact C.levk he)
  have C' := C.addEf ho h4 (hf p pv v cur m1 hp h2) hall (fun s ha hc => by
      have := allL_ok h6 _ (N.rss s ha hc)
      dsimp only at this
      cases hg : m1.tr.get (m0.nb + s) with
      | none => rfl
      | some b => rw [hg] at this; exact nomatch this)
    (fun j o' hj ho' hrd => by
      rcases N.wss j o' hj ho' hrd with ⟨e, b, he, hanc⟩ | h | ⟨w, hw, rfl, hwp, hwd⟩
      · exact .inl ⟨e, b, he, hanc⟩
      · exact .inr (.inr fun u _ => h u)
      · rcases orB_ok (allL_ok h5 w hw) with h7 | h7
        · exact .inr (.inl (hA _ (bitB_iff h7)))
        · obtain ⟨q, hq⟩ := sameAt_ok (ρ := ρ) h7
          exact .inr (.inr fun u hu => hwd u m1 q hu hq))
  have N' := N.addEf (v := v) (m1 := m1) C hA
  refine hk _ _ _ _ _ _ _ p2 hp2 C' N' ?_
  dsimp only
  rw [env_next ho]
  exact h

theorem drEf_ok (hin : i ≤ ops.size) (C : Cert P ρ ops n env0 m0 i k D cur) (N : Mind P ρ ops n env0 m0 i k D sn rs gs ws) (hp : PcR ρ p) (ho : ops[i]? = some o) (hA : ∀ b, A.testBit b = true → Anc ops i b) {f : M V}
    (hf : ∀ (p1 q1 : Pc) (v : V) (u u' : Mem), PcR ρ p1 → f.gives ρ u p1 v u' q1 → Does P ρ ops n o (envT ops D.val env0 i) u v u')
    (hk : Goes P ρ ops n env0 m0 (i + 1) kk r Z) (h : (drEf o.dst n i A (envT ops D.val env0 i) sn rs gs ws f kk cur p).out ρ = some r) : Z := by
  obtain ⟨k', D', cur', sn', rs', gs', h2, C2, N2, h3⟩ := shut_ok hin (fun g => subN g.e A) gs [] (fun sn rs gs m => drEf0 o.dst n i A (envT ops D.val env0 i) ws f kk sn rs gs m p) sn rs k D cur C N
  have h : (shutW (fun g => subN g.e A) gs (fun sn rs gs m => drEf0 o.dst n i A (envT ops D.val env0 i) ws f kk sn rs gs m p) sn rs cur).out ρ = some r := h
  rw [h2, ← h3] at h
  exact drEf0_ok C2 N2 hp ho hA (by rw [h3]; exact hf) hk h

theorem drAl_ok (C : Cert P ρ ops n env0 m0 i k D cur) (N : Mind P ρ ops n env0 m0 i k D sn rs gs ws) (hp : PcR ρ p) (ho : ops[i]? = some o) (hal : isAl o.op = true) {f : R (Blk × Shp)} {kt : Option TypeId}
    (hw : ∀ (p1 q1 : Pc) (m : Mem) (bs : Blk × Shp), PcR ρ p1 → f.gives ρ m p1 bs q1 → bs.1.wrB = true ∧ (∀ t, kt = some t → bs.1 = .map [] 0 true) ∧ ∀ (u : Mem) (b : Nat), u.tr.get b = some .rsv → m0.nb ≤ b → DoesN m0.nb P ρ ops n o (envT ops D.val env0 i) u (bs.2.val b) (setB u b bs.1))
    (hk : Goes P ρ ops n env0 m0 (i + 1) kk r Z) (h : (drAl o.dst n i (m0.nb + i) (envT ops D.val env0 i) sn rs gs ws kt f kk cur p).out ρ = some r) : Z := by
  obtain ⟨⟨bs, pv⟩, p2, h2, hp2, h⟩ := T.out_bndpq hp (show ((f cur p).bndpq p fun bs p => selB (slotOk o.dst n) (kk (putE o.dst (envT ops D.val env0 i) (bs.2.val (m0.nb + i))) sn rs (⟨m0.nb + i, bs.1, kt, [], Nat.pow 2 i, i⟩ :: gs) ws cur p) (.fail "a slot beyond the frame")).out ρ = some r from h)
  obtain ⟨h4, h⟩ := T.out_selB h
  obtain ⟨w1, w2, w3⟩ := hw p pv cur bs hp h2
  have C' := C.addMk (v := bs.2.val (m0.nb + i)) (kt := kt.getD 0) ho h4 hal w1 (fun u hu => w3 u _ hu (Nat.le_add_right _ _))
  have N' := N.addMk (v := bs.2.val (m0.nb + i)) (B := bs.1) (kt := kt) C ho w2
  refine hk _ _ _ _ _ _ _ p2 hp2 C' N' ?_
  dsimp only
  rw [env_next ho]
  exact h

theorem findG_some {f : Gr → Bool} {g : Gr} : ∀ {gs : List Gr}, findG f gs = some g → g ∈ gs ∧ f g = true
  | [], h => nomatch (show none = some g from h)
  | x :: gs, h => by
    have h : selB (f x) (some x) (findG f gs) = some g := h
    cases hx : f x with
    | true => rw [hx] at h; obtain rfl := Option.some.inj h; exact ⟨.head _, hx⟩
    | false => rw [hx] at h; obtain ⟨h1, h2⟩ := findG_some (gs := gs) h; exact ⟨.tail _ h1, h2⟩

theorem drIn_ok (C : Cert P ρ ops n env0 m0 i k D cur) (N : Mind P ρ ops n env0 m0 i k D sn rs gs ws) (hp : PcR ρ p) (ho : ops[i]? = some o) (hA : ∀ b, A.testBit b = true → Anc ops i b) {x : Ins} {g : Gr} (hg : findG (isIns x) gs = some g) (hkt : keyOK P x.kt = true)
    (hi : ∀ (u : Mem) (B : Blk) (es : List (V × V)), u.tr.get x.b = some B → MapB B es → (∀ e ∈ es, Apart P x.kt ρ x.k e.1) → Does P ρ ops n o (envT ops D.val env0 i) u undefV (setB u x.b (.pm (es ++ [(x.k, x.v)]) true)))
    (hk : Goes P ρ ops n env0 m0 (i + 1) kk r Z) (h : (drIn P o.dst n i A (envT ops D.val env0 i) sn rs gs ws x g kk cur p).out ρ = some r) : Z := by
  obtain ⟨h1, h⟩ := T.out_selB h
  obtain ⟨h2, h⟩ := T.out_selB h
  obtain ⟨h3, h⟩ := T.out_selB h
  obtain ⟨hgm, hgi⟩ := findG_some hg
  obtain ⟨e1, e2⟩ := andB_ok hgi
  rw [beq_iff] at e1
  obtain ⟨s, k1, k0, k2, k3, k4, k5, k6, k7⟩ := N.grs g hgm
  obtain ⟨hcon, hdk⟩ : g.k = .map [] 0 true ∧ D.kt s = x.kt := by
    cases hgk : g.kt with
    | none => rw [hgk] at e2; exact nomatch e2
    | some t =>
      rw [hgk] at e2
      have e2 : Nat.beq t x.kt = true := e2
      rw [beq_iff] at e2
      rw [← e2]
      exact k7 t hgk
  have hxb : x.b = m0.nb + s := e1.symm.trans k1
  have hanc : Anc ops i s := by
    have := hA _ (bitB_iff h1)
    rw [k0] at this; exact this
  have C' := C.addIns (v := undefV) (kv := (x.k, x.v)) ho h3 k2 k3 hanc (k4.trans hcon) (by
      rw [hdk, ← hxb]
      exact fun u B es e3 e4 e5 => hi u B es e3 e4 e5) (fun e he => by
      rw [k5] at he
      rw [hdk]
      obtain ⟨h7, h8⟩ := andB_ok (allL_ok h2 e he)
      exact ⟨isNo_ok hkt hp h7, isNo_ok hkt hp h8⟩)
  have N' := N.addIns (v := undefV) (kv := (x.k, x.v)) C ho k3
  refine hk _ _ _ _ _ _ _ p hp C' N' ?_
  dsimp only
  rw [env_next ho, ← hxb]
  exact h
end ev

theorem al_isAl {cf : FuncId → List V → M V} {env : Env} {f : R (Blk × Shp)} (hk : evKind o.op P cf env = .al f) : isAl o.op = true := by
  cases ho : o.op <;> rw [ho] at hk <;> first | rfl | exact (Kd.rd_al hk).elim | exact (Kd.ef_al hk).elim | skip
  case convert s d x =>
    have hk : (Bool.rec (Bool.rec (Kd.rd (convR P s d (opd x env))) (.ef (markM (opd x env))) (markT P s d)) (.ef (bytesM P d (opd x env))) (toSlice P s d) : Kd) = .al f := hk
    cases hs : toSlice P s d <;> rw [hs] at hk
    · cases hmk : markT P s d <;> rw [hmk] at hk
      · exact (Kd.rd_al hk).elim
      · exact (Kd.ef_al hk).elim
    · exact (Kd.ef_al hk).elim
  case call cl =>
    cases hc : cl.callee with
    | value g => rw [show evKind (Op.call cl) = hCall cl from rfl] at hk; unfold hCall at hk; rw [hc] at hk; exact (Kd.ef_al hk).elim
    | invoke r nm => rw [show evKind (Op.call cl) = hCall cl from rfl] at hk; unfold hCall at hk; rw [hc] at hk; exact (Kd.ef_al hk).elim
    | builtin b =>
      rw [show evKind (Op.call cl) = hCall cl from rfl] at hk; unfold hCall at hk; rw [hc] at hk
      cases b <;> first | exact (Kd.ef_al hk).elim | exact (Kd.rd_al hk).elim

theorem al_new {cf : FuncId → List V → M V} {env : Env} {f : R (Blk × Shp)} {m : Mem} {p q : Pc} {bs : Blk × Shp} (hk : evKind o.op P cf env = .al f) (h : f.gives ρ m p bs q) : bs.1.wrB = true ∧ ∀ t, mkOf o.op P = some t → bs.1 = .map [] 0 true := by
  have no : ∀ (op : Op), mkOf op P = none → ∀ t, mkOf op P = some t → bs.1 = .map [] 0 true := fun op h t ht => by rw [h] at ht; exact nomatch ht
  cases ho : o.op <;> rw [ho] at hk <;> first | exact (Kd.rd_al hk).elim | exact (Kd.ef_al hk).elim | skip
  case alloc t =>
    have hk : Kd.al (R.opt "alloc no zero" ((zeroOf P t).map fun z => (newCells z.cells, Shp.ptr))) = .al f := hk
    simp only [Kd.al.injEq] at hk; subst hk
    obtain ⟨h1, rfl⟩ := R.gives_opt h
    obtain ⟨z, hz, rfl⟩ := Option.map_eq_some_iff.1 h1
    exact ⟨rfl, no _ rfl⟩
  case box t x =>
    have hk : Kd.al (selB (allCells (opd x env).cells) (R.pure (newCells (opd x env).cells, Shp.ptr)) (R.fail "box")) = .al f := hk
    simp only [Kd.al.injEq] at hk; subst hk
    obtain ⟨h1, h2⟩ := R.gives_if h
    obtain ⟨rfl, rfl⟩ := R.gives_pure h2
    exact ⟨rfl, no _ rfl⟩
  case buildSlice t k ps =>
    have hk : Kd.al (buildSliceR P t k (partsV ps.toList env)) = .al f := hk
    simp only [Kd.al.injEq] at hk; subst hk
    unfold buildSliceR at h
    cases ha : slcOf P t with
    | none => rw [ha] at h; exact (R.gives_fail h).elim
    | some a =>
      rw [ha] at h
      obtain ⟨h1, rfl⟩ := R.gives_opt (show (R.opt "buildSlice" ((sliceLit k a.2 (partsV ps.toList env) (zcells P a.1 a.2 k)).map fun l => (newCells l, Shp.slice k k))).gives ρ m p bs q from h)
      obtain ⟨r, h2, rfl⟩ := Option.map_eq_some_iff.1 h1
      exact ⟨rfl, no _ rfl⟩
  case convert s d x =>
    have hk : (Bool.rec (Bool.rec (Kd.rd (convR P s d (opd x env))) (.ef (markM (opd x env))) (markT P s d)) (.ef (bytesM P d (opd x env))) (toSlice P s d) : Kd) = .al f := hk
    cases hs : toSlice P s d <;> rw [hs] at hk
    · cases hmk : markT P s d <;> rw [hmk] at hk
      · exact (Kd.rd_al hk).elim
      · exact (Kd.ef_al hk).elim
    · exact (Kd.ef_al hk).elim
  case makeMap t r =>
    have hk : Kd.al (Option.rec (R.pure (.map [] 0 true, .map)) (fun x => onInt (opd x env) (fun _ _ => selB (isMapT P t) (R.pure (.map [] 0 true, .map)) (R.fail "makeMap")) (R.fail "makeMap")) r : R (Blk × Shp)) = .al f := hk
    simp only [Kd.al.injEq] at hk; subst hk
    cases r with
    | none =>
      obtain ⟨rfl, rfl⟩ := R.gives_pure (show (R.pure (Blk.map [] 0 true, Shp.map)).gives ρ m p bs q from h)
      exact ⟨rfl, fun _ _ => rfl⟩
    | some x =>
      obtain ⟨_, _, _, h1⟩ := onInt_gives (show (onInt (opd x env) (fun _ _ => selB (isMapT P t) (R.pure (.map [] 0 true, .map)) (R.fail "makeMap")) (R.fail "makeMap")).gives ρ m p bs q from h)
      obtain ⟨_, h2⟩ := R.gives_if h1
      obtain ⟨rfl, rfl⟩ := R.gives_pure h2
      exact ⟨rfl, fun _ _ => rfl⟩
  case makeSlice t l k =>
    have hk : Kd.al (makeSliceR P t (opd l env) (opd k env)) = .al f := hk
    simp only [Kd.al.injEq] at hk; subst hk
    unfold makeSliceR at h
    cases ha : elemInfo P t with
    | none => rw [ha] at h; exact (R.gives_fail h).elim
    | some a =>
      rw [ha] at h
      have h : (onInt (opd l env) (fun _ el => onInt (opd k env) (fun _ ec => (natR el).bnd fun len => (natR ec).bnd fun cap => makeSliceL P len cap a) (R.fail "makeSlice")) (R.fail "makeSlice")).gives ρ m p bs q := h
      obtain ⟨_, _, _, h1⟩ := onInt_gives h
      obtain ⟨_, _, _, h2⟩ := onInt_gives h1
      obtain ⟨len, _, _, h3⟩ := R.gives_bnd h2
      obtain ⟨cap, _, _, h4⟩ := R.gives_bnd h3
      unfold makeSliceL at h4
      cases hz : zcells P a.1 a.2.1 cap with
      | none => rw [hz] at h4; exact (R.gives_fail h4).elim
      | some z =>
        rw [hz] at h4
        obtain ⟨_, h5⟩ := R.gives_if (show (selB (andB (Nat.ble len cap) (andB (Nat.ble cap 1099511627776) (Nat.ble (Nat.mul a.2.2 cap) 1099511627776))) (R.pure (newCells (repl cap z), Shp.slice len cap)) (R.fail "makeSlice great")).gives ρ m _ bs q from h4)
        obtain ⟨rfl, rfl⟩ := R.gives_pure h5
        exact ⟨rfl, no _ rfl⟩
  case call cl =>
    cases hc : cl.callee with
    | value g => rw [show evKind (Op.call cl) = hCall cl from rfl] at hk; unfold hCall at hk; rw [hc] at hk; exact (Kd.ef_al hk).elim
    | invoke r nm => rw [show evKind (Op.call cl) = hCall cl from rfl] at hk; unfold hCall at hk; rw [hc] at hk; exact (Kd.ef_al hk).elim
    | builtin b =>
      rw [show evKind (Op.call cl) = hCall cl from rfl] at hk; unfold hCall at hk; rw [hc] at hk
      cases b <;> first | exact (Kd.ef_al hk).elim | exact (Kd.rd_al hk).elim

end step

/-- the run in the order of the text gives a certificate -/
theorem evDr_ok {cf : FuncId → List V → M V} (hcf : CallsOK P ρ cf) : ∀ {l : List Oper} {i k b : Nat} {D : Data} {cur : Mem} {sn : List Sn} {rs : List Nat} {gs : List Gr} {ws : List Wt} {look : Nat → Nat} {p : Pc} {r : Rs Env},
    ops.toList.drop i = l → i + l.length = ops.size → b = m0.nb + i → (∀ j b, (look j).testBit b = true → Anc ops j b) → PcR ρ p → Cert P ρ ops n env0 m0 i k D cur → Mind P ρ ops n env0 m0 i k D sn rs gs ws →
    (evDr l ops P cf n i b look (envT ops D.val env0 i) sn rs gs ws cur p).out ρ = some r →
    ∃ k' D', Cert P ρ ops n env0 m0 ops.size k' D' r.m ∧ r.v = envT ops D'.val env0 ops.size ∧ PcR ρ r.p
  | [], i, k, b, D, cur, sn, rs, gs, ws, look, p, r, hd, hi, hb, hl, hp, C, N, h => by
    have : i = ops.size := by simpa using hi
    subst this
    obtain ⟨k', D', cur', sn', rs', gs', h2, C2, N2, h3⟩ := shut_ok (Nat.le_refl _) (fun _ => true) gs [] (fun _ _ _ m => (.ret ⟨envT ops D.val env0 ops.size, m, p⟩ : T (Rs Env))) sn rs k D cur C N
    have h : (shutW (fun _ => true) gs (fun _ _ _ m => (.ret ⟨envT ops D.val env0 ops.size, m, p⟩ : T (Rs Env))) sn rs cur).out ρ = some r := h
    rw [h2] at h
    obtain rfl := Option.some.inj (show some (⟨envT ops D.val env0 ops.size, cur', p⟩ : Rs Env) = some r from h)
    exact ⟨k', D', C2, by rw [h3], hp⟩
  | o :: l, i, k, b, D, cur, sn, rs, gs, ws, look, p, r, hd, hi, hb, hl, hp, C, N, h => by
    have ho : ops[i]? = some o := by
      have : (ops.toList.drop i)[0]? = some o := by rw [hd]; rfl
      simpa using this
    have hd' : ops.toList.drop (i + 1) = l := by rw [← List.drop_drop, hd]; rfl
    have hi' : i + 1 + l.length = ops.size := by simp at hi; omega
    have hin : i ≤ ops.size := by omega
    have hA : ∀ b, (ancOf o.after.toList look).testBit b = true → Anc ops i b := ancOf_ok hl ho _ (fun e he => by simpa using he)
    have hl' := putN_ok hl hA
    have h : ((forceN (ancOf o.after.toList look) fun A => fun m p =>
        (guardO o.guard (fun g => guardR ops g n (envT ops D.val env0 i)) m p).bndpq p fun w p => (Bool.rec
          (selB (slotOk o.dst n) (evDr l ops P cf n (i + 1) (b + 1) (putN look i A) (putE o.dst (envT ops D.val env0 i) undefV) sn rs gs ws m p) (.fail "a slot beyond the frame"))
          (drAny P cf o.op o.dst n i A b (envT ops D.val env0 i) sn rs gs ws (evDr l ops P cf n (i + 1) (b + 1) (putN look i A)) m p) w : T (Rs Env)) : M Env) cur p).out ρ = some r := h
    have h := (congrArg (fun x : M Env => (x cur p).out ρ = some r) (forceN_eq (α := M Env) (ancOf o.after.toList look) _)).mp h
    obtain ⟨⟨w, pw⟩, p1, hg, hp1, h⟩ := T.out_bndpq hp h
    have hg : (guardO o.guard (fun g => guardR ops g n (envT ops D.val env0 i))).gives ρ cur p w pw := hg
    generalize ancOf o.after.toList look = A at h hA hl'
    have goes : Goes P ρ ops n env0 m0 (i + 1) (evDr l ops P cf n (i + 1) (b + 1) (putN look i A)) r (∃ k' D', Cert P ρ ops n env0 m0 ops.size k' D' r.m ∧ r.v = envT ops D'.val env0 ops.size ∧ PcR ρ r.p) :=
      fun k D cur sn rs gs ws p hp C N h => evDr_ok hcf hd' hi' (by omega) hl' hp C N h
    cases w with
    | false =>
      obtain ⟨h4, h⟩ := T.out_selB h
      have hno := fun u => does_no (P := P) hp hg u
      have C' := C.addRd (v := undefV) ho h4 (fun _ _ _ u _ => hno u)
      have N' := N.addRd (v := undefV) C ho (ws' := ws) (fun w hw => hw) (.inl hno)
      refine goes _ _ _ _ _ _ _ p1 hp1 C' N' ?_
      dsimp only
      rw [env_next ho]
      exact h
    | true =>
      have h : ((Option.rec (Kd.rec (fun f => drRd o.dst n i A (envT ops D.val env0 i) sn rs gs ws f (evDr l ops P cf n (i + 1) (b + 1) (putN look i A)))
            (fun f => drAl o.dst n i b (envT ops D.val env0 i) sn rs gs ws (mkOf o.op P) f (evDr l ops P cf n (i + 1) (b + 1) (putN look i A)))
            (fun f => drEf o.dst n i A (envT ops D.val env0 i) sn rs gs ws f (evDr l ops P cf n (i + 1) (b + 1) (putN look i A))) (evKind o.op P cf (envT ops D.val env0 i)))
          (fun x => drIn P o.dst n i A (envT ops D.val env0 i) sn rs gs ws x.1 x.2 (evDr l ops P cf n (i + 1) (b + 1) (putN look i A)))
          (onO (insOf o.op P (envT ops D.val env0 i)) (fun x => onO (findG (isIns x) gs) fun g => some (x, g))) : M Env) cur p1).out ρ = some r := h
      have kinds : ((Kd.rec (fun f => drRd o.dst n i A (envT ops D.val env0 i) sn rs gs ws f (evDr l ops P cf n (i + 1) (b + 1) (putN look i A)))
            (fun f => drAl o.dst n i b (envT ops D.val env0 i) sn rs gs ws (mkOf o.op P) f (evDr l ops P cf n (i + 1) (b + 1) (putN look i A)))
            (fun f => drEf o.dst n i A (envT ops D.val env0 i) sn rs gs ws f (evDr l ops P cf n (i + 1) (b + 1) (putN look i A))) (evKind o.op P cf (envT ops D.val env0 i)) : M Env) cur p1).out ρ = some r → ∃ k' D', Cert P ρ ops n env0 m0 ops.size k' D' r.m ∧ r.v = envT ops D'.val env0 ops.size ∧ PcR ρ r.p := by
        intro h
        cases hk : evKind o.op P cf (envT ops D.val env0 i) with
        | rd f =>
          rw [hk] at h
          exact drRd_ok hin C N hp1 ho hA (fun p1 q1 u d v hp1 hs hf => does_rd' hp hg hk hp1 hs hf) goes h
        | al f =>
          rw [hk] at h
          subst hb
          refine drAl_ok C N hp1 ho ?_ (fun p1 q1 m bs hp1 hf => ?_) goes h
          · exact al_isAl hk
          · obtain ⟨h1, h2⟩ := al_new hk hf
            exact ⟨h1, h2, fun u b hb hle => does_mk hp hg hk hp1 hf hb hle⟩
        | ef f =>
          rw [hk] at h
          exact drEf_ok hin C N hp1 ho hA (fun p1 q1 v u u' hp1 hf => does_ef hcf hp hg hk hp1 hf) goes h
      cases hins : insOf o.op P (envT ops D.val env0 i) with
      | none => rw [hins] at h; exact kinds h
      | some x =>
        rw [hins] at h
        cases hgf : findG (isIns x) gs with
        | none =>
          have e : (onO (some x) fun x => onO (findG (isIns x) gs) fun g => some (x, g)) = none := by
            show onO (findG (isIns x) gs) (fun g => some (x, g)) = none
            rw [hgf]; rfl
          rw [e] at h
          exact kinds h
        | some g =>
          have e : (onO (some x) fun x => onO (findG (isIns x) gs) fun g => some (x, g)) = some (x, g) := by
            show onO (findG (isIns x) gs) (fun g => some (x, g)) = some (x, g)
            rw [hgf]; rfl
          rw [e] at h
          obtain ⟨t, mp, kk, y, et, _, hmt, _⟩ := insOf_some hins
          exact drIn_ok C N hp1 ho hA hgf (mapOf_some hmt).2 (fun u B es e1 e2 e3 => does_ins hp hg hins e1 e2 e3) goes h
/-- the slots behind the operations of 'S' -/
noncomputable def envS (ops : Array Oper) (val : Nat → V) (env0 : Env) (S : Nat → Bool) : Nat → Env
  | 0 => env0
  | j + 1 => selB (S j) (putE (dstAt ops j) (envS ops val env0 S j) (val j)) (envS ops val env0 S j)

theorem putE_ne {d : Option Nat} {env : Env} {v : V} {t : Nat} (h : d ≠ some t) : putE d env v t = env t := by
  cases d with
  | none => rfl
  | some d =>
    show (Bool.rec (env t) v (Nat.beq t d) : V) = env t
    cases hb : Nat.beq t d with
    | false => rfl
    | true => rw [beq_iff] at hb; subst hb; exact absurd rfl h

theorem putE_eq {env : Env} {v : V} {t : Nat} : putE (some t) env v t = v := by
  show (Bool.rec (env t) v (Nat.beq t t) : V) = v
  rw [(beq_iff t t).2 rfl]

variable {val : Nat → V}

theorem envS_congr {S S' : Nat → Bool} {t : Nat} : ∀ {N : Nat}, (∀ j, j < N → dstAt ops j = some t → S' j = S j) → envS ops val env0 S' N t = envS ops val env0 S N t
  | 0, _ => rfl
  | N + 1, h => by
    have ih := envS_congr (N := N) fun j hj => h j (by omega)
    rw [envS, envS]
    by_cases hd : dstAt ops N = some t
    · rw [h N (by omega) hd]
      cases S N with
      | false => exact ih
      | true =>
        show putE (dstAt ops N) _ (val N) t = putE (dstAt ops N) _ (val N) t
        rw [hd, putE_eq, putE_eq]
    · have e : ∀ (b : Bool) (env : Env), selB b (putE (dstAt ops N) env (val N)) env t = env t := by
        intro b env
        cases b with
        | false => rfl
        | true => exact putE_ne hd
      rw [e, e]; exact ih

theorem envS_all : ∀ {N : Nat}, envS ops val env0 (fun _ => true) N = envT ops val env0 N
  | 0 => rfl
  | N + 1 => by rw [envS, envT, envS_all]; rfl

theorem envS_cut {i t : Nat} : ∀ {N : Nat}, i ≤ N → envS ops val env0 (fun j => decide (j < i)) N t = envT ops val env0 i t
  | 0, h => by
    have : i = 0 := by omega
    subst this; rfl
  | N + 1, h => by
    rw [envS]
    by_cases hN : N < i
    · have : i = N + 1 := by omega
      subst this
      rw [decide_eq_true hN, envT]
      have e : envS ops val env0 (fun j => decide (j < N + 1)) N = envT ops val env0 N := by
        funext t
        rw [← envS_all]
        exact envS_congr fun j hj _ => by simp; omega
      rw [e]; rfl
    · rw [decide_eq_false hN]
      exact envS_cut (by omega)

/-- one more -/
theorem envS_new {S S' : Nat → Bool} {i t : Nat} (hS' : S' i = true) (h : ∀ j, j ≠ i → S' j = S j) (hd : dstAt ops i = some t) : ∀ {N : Nat}, i < N → (∀ j, i < j → j < N → dstAt ops j = some t → S j = false) → envS ops val env0 S' N t = val i
  | N + 1, hi, hn => by
    rw [envS]
    by_cases hN : N = i
    · subst hN
      rw [hS', hd]
      exact putE_eq
    · have ih := envS_new hS' h hd (N := N) (by omega) fun j h1 h2 => hn j h1 (by omega)
      by_cases hdN : dstAt ops N = some t
      · rw [h N hN, hn N (by omega) (by omega) hdN]
        exact ih
      · cases S' N with
        | false => exact ih
        | true => show putE (dstAt ops N) _ (val N) t = val i; rw [putE_ne hdN]; exact ih

theorem Anc.lt (F : RegF ops) {i j : Nat} (h : Anc ops i j) : j < i := by
  induction h with
  | edge ho he hb => exact F.edges _ _ _ ho he hb
  | step ho he hb _ ih => exact Nat.lt_trans ih (F.edges _ _ _ ho he hb)

theorem getD_new {listed : Array Bool} {i : Nat} (hi : i < listed.size) : (listed.setIfInBounds i true).getD i false = true := by
  simp [hi]


/-! ### the memories of a run in any order -/

open Classical in
/-- what lies over the memory of level x, where the operations of S are done -/
noncomputable def Data.fr (D : Data) (ops : Array Oper) (b0 x : Nat) (S : Nat → Bool) (j : Nat) : Option Blk :=
  if b0 ≤ j ∧ alAt ops (j - b0) = true ∧ (∀ a, D.cls (j - b0) = some a → x ≤ a) then some (D.cnt (j - b0) S) else none

noncomputable def Data.mem (D : Data) (ops : Array Oper) (b0 x : Nat) (S : Nat → Bool) : Mem := layM (D.base x) (D.fr ops b0 x S) ((List.range ops.size).map (b0 + ·))

section mid
variable {k : Nat} {D : Data} {cur : Mem} {b0 : Nat}

theorem fr_some {x : Nat} {S : Nat → Bool} {j : Nat} {b : Blk} (h : D.fr ops b0 x S j = some b) : ∃ s, j = b0 + s ∧ alAt ops s = true ∧ (∀ a, D.cls s = some a → x ≤ a) ∧ b = D.cnt s S := by
  unfold Data.fr at h
  split at h
  · rename_i h1
    exact ⟨j - b0, by omega, h1.2.1, h1.2.2, (Option.some.inj h).symm⟩
  · exact nomatch h

theorem fr_at {x s : Nat} {S : Nat → Bool} (h1 : alAt ops s = true) (h2 : ∀ a, D.cls s = some a → x ≤ a) : D.fr ops b0 x S (b0 + s) = some (D.cnt s S) := by
  unfold Data.fr
  rw [Nat.add_sub_cancel_left, if_pos ⟨Nat.le_add_right _ _, h1, h2⟩]

theorem fr_no {x s a : Nat} {S : Nat → Bool} (h1 : D.cls s = some a) (h2 : a < x) : D.fr ops b0 x S (b0 + s) = none := by
  unfold Data.fr
  rw [Nat.add_sub_cancel_left, if_neg]
  intro h
  have := h.2.2 a h1
  omega

theorem alAt_lt {s : Nat} (h : alAt ops s = true) : s < ops.size := by
  unfold alAt at h
  cases ho : ops[s]? with
  | none => rw [ho] at h; exact nomatch h
  | some o => exact (Array.getElem?_eq_some_iff.1 ho).1

theorem mem_ext (x : Nat) (S : Nat → Bool) : Ext (D.base x) (D.fr ops b0 x S) (D.mem ops b0 x S) :=
  layM_ext fun j b h => by
    obtain ⟨s, rfl, h1, _, _⟩ := fr_some h
    exact List.mem_map.2 ⟨s, List.mem_range.2 (alAt_lt h1), rfl⟩

theorem fr_gone (C : Cert P ρ ops n env0 m0 ops.size k D cur) {x : Nat} (hx : x ≤ k) {S : Nat → Bool} : ∀ j b, D.fr ops m0.nb x S j = some b → (D.base x).tr.get j = none := by
  intro j b h
  obtain ⟨s, rfl, h1, h2, _⟩ := fr_some h
  exact C.gone x s hx h1 h2

theorem fr_wr (C : Cert P ρ ops n env0 m0 ops.size k D cur) {x : Nat} {S : Nat → Bool} : ∀ j b, D.fr ops m0.nb x S j = some b → b = .rsv ∨ b.wrB = true := by
  intro j b h
  obtain ⟨s, rfl, h1, h2, rfl⟩ := fr_some h
  unfold Data.cnt
  cases hc : D.cl s with
  | mk =>
    dsimp only
    split
    · have hs : s < ops.size := C.side.lt (by rw [hc]; exact fun h => nomatch h)
      have hw := (C.side.made s _ (Array.getElem?_eq_getElem hs) hc).2.1
      cases insL (D.ent s) S with
      | nil => exact .inr hw
      | cons e l => exact .inr rfl
    · exact .inl rfl
  | _ => exact .inl rfl

theorem cnt_congr (C : Cert P ρ ops n env0 m0 ops.size k D cur) {S S' : Nat → Bool} {t : Nat} (h1 : D.cl t = .mk → S' t = S t) (h2 : ∀ j, D.cl j = .ins t → S' j = S j) : D.cnt t S' = D.cnt t S := by
  unfold Data.cnt
  cases hc : D.cl t with
  | mk =>
    dsimp only
    rw [h1 hc, insL_congr (S := S') (S' := S) fun x hx => h2 x.1 (C.side.ent t x.1 x.2 hc hx).1]
  | _ => rfl

theorem fr_congr (C : Cert P ρ ops n env0 m0 ops.size k D cur) {S S' : Nat → Bool} {x : Nat} (h1 : ∀ t, D.cl t = .mk → S' t = S t) (h2 : ∀ j t, D.cl j = .ins t → S' j = S j) : D.fr ops m0.nb x S' = D.fr ops m0.nb x S := by
  funext j
  unfold Data.fr
  rw [cnt_congr C (h1 _) fun j h => h2 j _ h]

theorem fr_congr_at {S S' : Nat → Bool} {x j : Nat} (h : ∀ t, j = b0 + t → D.cnt t S' = D.cnt t S) : D.fr ops b0 x S' j = D.fr ops b0 x S j := by
  unfold Data.fr
  by_cases hj : b0 ≤ j
  · rw [h (j - b0) (by omega)]
  · rw [if_neg fun h => hj h.1, if_neg fun h => hj h.1]

theorem mem_congr (C : Cert P ρ ops n env0 m0 ops.size k D cur) {S S' : Nat → Bool} {x : Nat} (h1 : ∀ t, D.cl t = .mk → S' t = S t) (h2 : ∀ j t, D.cl j = .ins t → S' j = S j) : D.mem ops m0.nb x S' = D.mem ops m0.nb x S := by
  unfold Data.mem
  rw [fr_congr C h1 h2]

/-- a level at which nothing shuts -/
theorem fr_step {x : Nat} {S : Nat → Bool} (h : ∀ s, D.cls s ≠ some x) : D.fr ops b0 (x + 1) S = D.fr ops b0 x S := by
  funext j
  unfold Data.fr
  have e : (b0 ≤ j ∧ alAt ops (j - b0) = true ∧ ∀ a, D.cls (j - b0) = some a → x + 1 ≤ a) ↔ (b0 ≤ j ∧ alAt ops (j - b0) = true ∧ ∀ a, D.cls (j - b0) = some a → x ≤ a) :=
    ⟨fun ⟨h1, h2, h3⟩ => ⟨h1, h2, fun a ha => by have := h3 a ha; omega⟩, fun ⟨h1, h2, h3⟩ => ⟨h1, h2, fun a ha => by
      have h4 := h3 a ha
      have : a ≠ x := fun e => h _ (e ▸ ha)
      omega⟩⟩
  by_cases hc : (b0 ≤ j ∧ alAt ops (j - b0) = true ∧ ∀ a, D.cls (j - b0) = some a → x ≤ a)
  · rw [if_pos hc, if_pos (e.2 hc)]
  · rw [if_neg hc, if_neg (fun h => hc (e.1 h))]

/-- a level at which a block shuts, all of its operations being done -/
theorem mem_shut (C : Cert P ρ ops n env0 m0 ops.size k D cur) {x s : Nat} (hx : x < k) (hkd : D.kd x = some s) {S : Nat → Bool} (hS : ∀ e, D.lev e = some x → S e = true) : MemE (D.mem ops m0.nb x S) (D.mem ops m0.nb (x + 1) S) := by
  obtain ⟨h1, h2⟩ := C.kds x s hx hkd
  have hmk : D.cl s = .mk := Classical.byContradiction fun h => by rw [C.cfresh s h] at h1; exact nomatch h1
  have hal : alAt ops s = true := C.alAt (Nat.le_refl _) hmk
  have huniq : ∀ t, D.cls t = some x → t = s := fun t h => by
    have := (C.clsk t x h).2
    rw [hkd] at this; exact (Option.some.inj this).symm
  have e1 := mem_ext (D := D) (ops := ops) (b0 := m0.nb) x S
  have e2 := mem_ext (D := D) (ops := ops) (b0 := m0.nb) (x + 1) S
  refine ⟨e1.nb.trans (Eq.trans ?_ e2.nb.symm), e1.nt.trans (Eq.trans ?_ e2.nt.symm), e1.tok.trans (Eq.trans ?_ e2.tok.symm), fun j => .inl ?_⟩
  · rw [h2]; rfl
  · rw [h2]; rfl
  · rw [h2]; rfl
  · by_cases hj : j = m0.nb + s
    · subst hj
      have hcnt : D.cnt s (fun _ => true) = D.cnt s S := cnt_congr C (fun _ => by rw [hS s (by unfold Data.lev; rw [hmk]; exact h1)]) fun j h => by rw [hS j (by unfold Data.lev; rw [h]; exact h1)]
      rw [e1.put (fr_at hal fun a ha => by rw [h1] at ha; have := Option.some.inj ha; omega), e2.not (fr_no h1 (Nat.lt_succ_self x)), h2, setB_get, if_pos rfl, hcnt]
    · have hb : (D.base (x + 1)).tr.get j = (D.base x).tr.get j := by rw [h2, setB_get, if_neg hj]
      rw [e1.tr, e2.tr, hb]
      congr 1
      unfold Data.fr
      by_cases hjb : m0.nb ≤ j
      · have e : (m0.nb ≤ j ∧ alAt ops (j - m0.nb) = true ∧ ∀ a, D.cls (j - m0.nb) = some a → x + 1 ≤ a) ↔ (m0.nb ≤ j ∧ alAt ops (j - m0.nb) = true ∧ ∀ a, D.cls (j - m0.nb) = some a → x ≤ a) :=
          ⟨fun ⟨h1, h2, h3⟩ => ⟨h1, h2, fun a ha => by have := h3 a ha; omega⟩, fun ⟨h1, h2, h3⟩ => ⟨h1, h2, fun a ha => by
            have h4 := h3 a ha
            have : a ≠ x := fun e => by
              have := huniq _ (e ▸ ha)
              omega
            omega⟩⟩
        by_cases hc : (m0.nb ≤ j ∧ alAt ops (j - m0.nb) = true ∧ ∀ a, D.cls (j - m0.nb) = some a → x ≤ a)
        · rw [if_pos hc, if_pos (e.2 hc)]
        · rw [if_neg hc, if_neg (fun h => hc (e.1 h))]
      · rw [if_neg (fun h => hjb h.1), if_neg (fun h => hjb h.1)]

/-- where a run in some order stands: at a level x -/
structure At0 (P : Program) (ρ : Nat → Int) (ops : Array Oper) (k : Nat) (D : Data) (c0 : Cx) (m0 : Mem) (w0 : World) (S : Nat → Bool) (w : World) (c : Cx) (x : Nat) : Prop where
  le : x ≤ k
  near : ∀ j b, D.lev j = some b → b < x → S j = true
  far : ∀ j b, D.cl j = .ef b → x ≤ b → S j = false
  step : StepN m0.nb c0 m0 w0 c (D.mem ops m0.nb x S) w

theorem At0.norm (C : Cert P ρ ops n env0 m0 ops.size k D cur) {c0 c : Cx} {w0 w : World} {S : Nat → Bool} : ∀ (d x : Nat), x + d = k → At0 P ρ ops k D c0 m0 w0 S w c x →
    ∃ x, At0 P ρ ops k D c0 m0 w0 S w c x ∧ (x = k ∨ ∃ e, D.lev e = some x ∧ S e = false)
  | 0, x, hd, h => ⟨x, h, .inl (by omega)⟩
  | d + 1, x, hd, h => by
    by_cases hex : ∃ e, D.lev e = some x ∧ S e = false
    · exact ⟨x, h, .inr hex⟩
    · have hS : ∀ e, D.lev e = some x → S e = true := fun e he => by
        cases hse : S e with
        | true => rfl
        | false => exact absurd ⟨e, he, hse⟩ hex
      cases hkd : D.kd x with
      | none =>
        obtain ⟨j, hj⟩ := C.kdn x (by omega) hkd
        exact absurd ⟨j, by unfold Data.lev; rw [hj], h.far j x hj (Nat.le_refl _)⟩ hex
      | some s =>
        refine At0.norm C d (x + 1) (by omega) ⟨by omega, fun j b hb hlt => ?_, fun j b hb hle => h.far j b hb (by omega), h.step.toE (mem_shut C (by omega) hkd hS)⟩
        by_cases e : b = x
        · subst e; exact hS j hb
        · exact h.near j b hb (by omega)

/-- where a run in some order stands -/
structure Mid (P : Program) (ρ : Nat → Int) (ops : Array Oper) (n : Nat) (env0 : Env) (k : Nat) (D : Data) (c0 : Cx) (m0 : Mem) (w0 : World) (a0 : Act) (listed : Array Bool) (a : Act) (w : World) : Prop where
  size : listed.size = ops.size
  closed : ∀ j j', listed.getD j false = true → Anc ops j j' → listed.getD j' false = true
  pos : ∃ x c, At0 P ρ ops k D c0 m0 w0 (fun j => listed.getD j false) w c x ∧ (x = k ∨ ∃ e, D.lev e = some x ∧ listed.getD e false = false) ∧
    a.tmps.size = n ∧ ∀ t, VR c (envS ops D.val env0 (fun j => listed.getD j false) ops.size t) (a.tmps.getD t undef)
  defers : a.defers = a0.defers

theorem mid_step (F : RegF ops) (C : Cert P ρ ops n env0 m0 ops.size k D cur) {c0 : Cx} {w0 : World} {a0 : Act} (hρ : c0.ρ = ρ) (hn0 : c0.nb = m0.nb) (hg0 : GlobR c0) {listed : Array Bool} {a : Act} {w : World}
    (M : Mid P ρ ops n env0 k D c0 m0 w0 a0 listed a w) {i : Nat} (hi : i ∈ Region.ready .any ops listed) {Q : Exit → Act → World → Prop} {K : Act → World → Prop}
    (hK : ∀ a' w', Mid P ρ ops n env0 k D c0 m0 w0 a0 (listed.setIfInBounds i true) a' w' → K a' w') : wpOp P ops Q i K a w := by
  obtain ⟨hnl, o, ho, hall⟩ := mem_ready.1 hi
  have hin : i < ops.size := (Array.getElem?_eq_some_iff.1 ho).1
  have hil : i < listed.size := by rw [M.size]; exact hin
  have hnl' : listed.getD i false = false := by
    have : ∀ d, listed.getD i d = listed[i] := fun d => by simp [Array.getD, hil]
    rw [this] at hnl ⊢; exact hnl
  have hdst : dstAt ops i = o.dst := by unfold dstAt; rw [ho]; rfl
  have hanc : ∀ j, Anc ops i j → listed.getD j false = true := by
    intro j hj
    cases hj with
    | edge ho' he hb => rw [ho] at ho'; simp at ho'; subst ho'; exact hall _ he hb
    | step ho' he hb h => rw [ho] at ho'; simp at ho'; subst ho'; exact M.closed _ _ (hall _ he hb) h
  have hnot : ∀ j, Anc ops j i → listed.getD j false = false := by
    intro j hj
    cases hlj : listed.getD j false with
    | false => rfl
    | true => have := M.closed j i hlj hj; rw [hnl'] at this; simp at this
  obtain ⟨x, c, h0, hpos, hsz, hsl⟩ := M.pos
  have s := h0.step
  have hrho := s.le.ρ.trans hρ
  have hb0 : m0.nb ≤ c.nb := by have := s.le.nb; omega
  -- which operations touch a slot that this one looks at, or writes
  have apart : ∀ j t, j < ops.size → dstAt ops j = some t → (t ∈ looks ops o ∨ o.dst = some t) → j ≠ i → (listed.getD j false = decide (j < i)) := by
    intro j t hj hdj ht hne
    obtain ⟨o', ho'⟩ : ∃ o', ops[j]? = some o' := ⟨ops[j], Array.getElem?_eq_getElem hj⟩
    have hd' : o'.dst = some t := by unfold dstAt at hdj; rw [ho'] at hdj; exact hdj
    by_cases hlt : j < i
    · rw [decide_eq_true hlt]
      rcases F.apart i j o o' ho ho' hlt with h | h
      · exact hanc j h
      · exfalso
        unfold slotsApart at h
        rw [hd'] at h
        rcases ht with ht | ht
        · simp [ht] at h
        · rw [ht] at h; simp at h
    · rw [decide_eq_false hlt]
      rcases F.apart j i o' o ho' ho (by omega) with h | h
      · exact hnot j h
      · exfalso
        unfold slotsApart at h
        rw [hd'] at h
        rcases ht with ht | ht
        · simp [ht] at h
        · rw [ht] at h; simp at h
  have hlook : EnvL c n ops o (envT ops D.val env0 i) a := by
    refine ⟨hsz, fun t ht => ?_, hg0.mono s.le⟩
    rw [← envS_cut (N := ops.size) (by omega)]
    rw [envS_congr (S := fun j => listed.getD j false) (fun j hj hdj => ?_)]
    · exact hsl t
    · by_cases hne : j = i
      · subst hne; simp [hnl']
      · exact (apart j t hj hdj (.inl ht) hne).symm
  have hnew : ∀ (c' : Cx) (z : Value), c.leN m0.nb c' → VR c' (D.val i) z → (∀ d, o.dst = some d → d < n) → ∀ t, VR c' (envS ops D.val env0 (fun j => (listed.setIfInBounds i true).getD j false) ops.size t) ((a.put o.dst z).tmps.getD t undef) := by
    intro c' z hle hz hdn t
    have hS : ∀ j, j ≠ i → (listed.setIfInBounds i true).getD j false = listed.getD j false := fun j hj => getD_set_ne false (Ne.symm hj)
    by_cases hd : o.dst = some t
    · have e1 : envS ops D.val env0 (fun j => (listed.setIfInBounds i true).getD j false) ops.size t = D.val i :=
        envS_new (S := fun j => listed.getD j false) (getD_new hil) hS (by rw [hdst]; exact hd) hin fun j h1 h2 h3 => by
          rw [apart j t h2 h3 (.inr hd) (by omega)]; simp; omega
      have e2 : (a.put o.dst z).tmps.getD t undef = z := by
        rw [hd, Act.put_tmps]
        have := hdn t hd
        simp [Array.getD, hsz, this]
      rw [e1, e2]; exact hz
    · have e1 : envS ops D.val env0 (fun j => (listed.setIfInBounds i true).getD j false) ops.size t = envS ops D.val env0 (fun j => listed.getD j false) ops.size t :=
        envS_congr fun j hj hdj => hS j fun e => by subst e; rw [hdst] at hdj; exact hd hdj
      have e2 : (a.put o.dst z).tmps.getD t undef = a.tmps.getD t undef := by
        cases hdo : o.dst with
        | none => rfl
        | some d =>
          rw [Act.put_tmps]
          have : d ≠ t := fun e => hd (by rw [hdo, e])
          simp only [Array.getD_eq_getD_getElem?, Array.getElem?_setIfInBounds, if_neg this]
      rw [e1, e2]; exact (hsl t).mono hle
  have hclosed : ∀ j j', (listed.setIfInBounds i true).getD j false = true → Anc ops j j' → (listed.setIfInBounds i true).getD j' false = true := by
    intro j j' hj hjj
    by_cases hji : j = i
    · subst hji; exact getD_set_true (hanc j' hjj)
    · rw [getD_set_ne false (Ne.symm hji)] at hj
      exact getD_set_true (M.closed j j' hj hjj)
  have hdn : ∀ d, o.dst = some d → d < n := fun d hd => C.slot i d hin (by rw [hdst]; exact hd)
  have hsize : (listed.setIfInBounds i true).size = ops.size := by simpa using M.size
  unfold wpOp
  rw [ho]
  show if Region.wanted o (yielded ops a.tmps) then o.wp P a w K Q ∨ (o.asks P a w ∧ LetsOut Q) else K (a.put o.dst undef) w
  have hnext : ∀ j, (listed.setIfInBounds i true).getD j false = updN (fun j => listed.getD j false) i true j := fun j => by
    by_cases hji : j = i
    · subst hji; rw [updN_same]; exact getD_new hil
    · rw [updN_ne hji]; exact getD_set_ne false (Ne.symm hji)
  have fin : ∀ (c' : Cx) (w' : World) (z : Value) (x' : Nat), At0 P ρ ops k D c0 m0 w0 (fun j => (listed.setIfInBounds i true).getD j false) w' c' x' → c.leN m0.nb c' → VR c' (D.val i) z → K (a.put o.dst z) w' := by
    intro c' w' z x' hx' hle hz
    obtain ⟨x2, h2, hp2⟩ := At0.norm C (k - x') x' (by have := hx'.le; omega) hx'
    refine hK _ _ ⟨hsize, hclosed, ⟨x2, c', h2, hp2, ?_, hnew c' z hle hz hdn⟩, ?_⟩
    · cases hd : o.dst <;> simp [Act.put, hsz]
    · rw [put_defers]; exact M.defers
  have hother : ∀ {j}, j ≠ i → (listed.setIfInBounds i true).getD j false = listed.getD j false := fun {j} hj => by rw [hnext j, updN_ne hj]
  have hmore : ∀ {j}, listed.getD j false = true → (listed.setIfInBounds i true).getD j false = true := fun {j} h => getD_set_true h
  have near : ∀ j b, D.lev j = some b → b < x → (listed.setIfInBounds i true).getD j false = true := fun j b hb hlt => hmore (h0.near j b hb hlt)
  have far : (∀ b, D.cl i ≠ .ef b) → ∀ j b, D.cl j = .ef b → x ≤ b → (listed.setIfInBounds i true).getD j false = false := fun hne j b hb hle => by
    rw [hother (fun e => hne b (e ▸ hb))]; exact h0.far j b hb hle
  have hgone := fr_gone C h0.le (S := fun j => listed.getD j false)
  have hext := mem_ext (D := D) (ops := ops) (b0 := m0.nb) x (fun j => listed.getD j false)
  have hext' := mem_ext (D := D) (ops := ops) (b0 := m0.nb) x (fun j => (listed.setIfInBounds i true).getD j false)
  cases hcl : D.cl i with
  | rd =>
    have hsame : ∀ {j}, D.cl j ≠ .rd → (listed.setIfInBounds i true).getD j false = listed.getD j false := fun {j} h => hother fun e => h (e ▸ hcl)
    have hmem : D.mem ops m0.nb x (fun j => (listed.setIfInBounds i true).getD j false) = D.mem ops m0.nb x (fun j => listed.getD j false) :=
      mem_congr C (fun t h => hsame (by rw [h]; exact fun h => nomatch h)) fun j t h => hsame (by rw [h]; exact fun h => nomatch h)
    have hD := C.reads i o x hin ho hcl h0.le (hpos.imp id fun ⟨e, h1, h2⟩ => ⟨e, h1, fun ha => by rw [hanc e ha] at h2; exact nomatch h2⟩)
      (fun e b he ha => Nat.le_of_not_lt fun hlt => by
        have h1 : listed.getD e false = true := h0.near e b he hlt
        rw [hnot e ha] at h1; exact nomatch h1) _ (hext.sub hgone)
    exact hD hrho s.rel hlook K Q fun c' w' z s' hz => fin c' w' z x ⟨h0.le, near, far (fun b => by rw [hcl]; exact fun h => nomatch h), by rw [hmem]; exact s.trans (s'.weak hb0)⟩ (s'.le.weak hb0) hz
  | ef y =>
    have hli : D.lev i = some y := by unfold Data.lev; rw [hcl]
    have hyx : y = x := by
      rcases Nat.lt_trichotomy y x with h | h | h
      · have h1 : listed.getD i false = true := h0.near i y hli h
        rw [hnl'] at h1; exact nomatch h1
      · exact h
      · rcases hpos with h1 | ⟨e, he, hse⟩
        · have := (C.efk i y hcl).1; omega
        · rw [hanc e (C.chain i y hcl e x he h)] at hse; exact nomatch hse
    subst hyx
    have hncl : ∀ t, D.cls t ≠ some y := fun t h => by
      have := (C.clsk t y h).2
      rw [(C.efk i y hcl).2] at this; exact nomatch this
    have hext2 : Ext (D.base (y + 1)) (D.fr ops m0.nb y fun j => listed.getD j false) (D.mem ops m0.nb (y + 1) fun j => listed.getD j false) := by
      have := mem_ext (D := D) (ops := ops) (b0 := m0.nb) (y + 1) (fun j => listed.getD j false)
      rw [fr_step hncl] at this; exact this
    have hsame : ∀ {j}, (∀ b, D.cl j ≠ .ef b) → (listed.setIfInBounds i true).getD j false = listed.getD j false := fun {j} h => hother fun e => h y (e ▸ hcl)
    have hmem : D.mem ops m0.nb (y + 1) (fun j => (listed.setIfInBounds i true).getD j false) = D.mem ops m0.nb (y + 1) (fun j => listed.getD j false) :=
      mem_congr C (fun t h => hsame (fun b => by rw [h]; exact fun h => nomatch h)) fun j t h => hsame (fun b => by rw [h]; exact fun h => nomatch h)
    refine C.ef i o y ho hcl hrho ((hext.sub hgone).rel s.rel) hlook K Q fun c' w' z s' hz => fin c' w' z (y + 1) ⟨(C.efk i y hcl).1, fun j b hb hlt => ?_, fun j b hb hle => ?_, ?_⟩ (s'.le.weak hb0) hz
    · by_cases e : b = y
      · subst e
        unfold Data.lev at hb
        cases hcj : D.cl j <;> rw [hcj] at hb <;> dsimp only at hb
        · exact nomatch hb
        · obtain rfl := Option.some.inj hb
          rw [C.efu j i _ hcj hcl]
          exact getD_new hil
        · exact absurd hb (hncl _)
        · exact absurd hb (hncl _)
      · exact near j b hb (by omega)
    · have hji : j ≠ i := by
        rintro rfl
        rw [hcl] at hb
        have := Cl.ef.inj hb; omega
      show (listed.setIfInBounds i true).getD j false = false
      rw [hother hji]; exact h0.far j b hb (by omega)
    · rw [hmem]
      exact s.trans ((Step.hide s.rel hext hext2 hgone (fr_wr C) s').weak hb0)
  | mk =>
    have hcls : ∀ a, D.cls i = some a → x ≤ a := fun b hb => Nat.le_of_not_lt fun hlt => by
      have h1 : listed.getD i false = true := h0.near i b (by unfold Data.lev; rw [hcl]; exact hb) hlt
      rw [hnl'] at h1; exact nomatch h1
    have hal : alAt ops i = true := C.alAt (Nat.le_refl _) hcl
    have hrsv : (D.mem ops m0.nb x fun j => listed.getD j false).tr.get (m0.nb + i) = some .rsv := by
      rw [hext.put (fr_at hal hcls)]
      unfold Data.cnt
      rw [hcl]
      dsimp only
      rw [if_neg (by rw [hnl']; exact fun h => nomatch h)]
    have hcon : D.cnt i (fun j => (listed.setIfInBounds i true).getD j false) = D.con i := by
      unfold Data.cnt
      rw [hcl]
      dsimp only
      rw [if_pos (getD_new hil), insL_none]
      · rfl
      · rintro ⟨j, kv⟩ hj
        obtain ⟨h1, _⟩ := C.side.ent i j kv hcl hj
        have h2 := hnot j (C.side.ins j i h1).2.1
        show (listed.setIfInBounds i true).getD j false = false
        rw [hother]
        · exact h2
        · rintro rfl; rw [hcl] at h1; exact nomatch h1
    refine (C.side.made i o ho hcl).2.2 _ hrsv hrho s.rel hlook K Q fun c' w' z s' hz => fin c' w' z x ⟨h0.le, near, far (fun b => by rw [hcl]; exact fun h => nomatch h), (s.trans s').toE ⟨?_, ?_, ?_, fun j => .inl ?_⟩⟩ s'.le hz
    · exact hext.nb.trans hext'.nb.symm
    · exact hext.nt.trans hext'.nt.symm
    · exact hext.tok.trans hext'.tok.symm
    · rw [setB_get]
      by_cases hj : j = m0.nb + i
      · subst hj
        rw [if_pos rfl, hext'.put (fr_at hal hcls), hcon]
      · rw [if_neg hj, hext.tr, hext'.tr]
        congr 1
        refine (fr_congr_at fun t ht => cnt_congr C (fun _ => hother fun e => hj (by rw [ht, e])) fun l hl => hother fun e => ?_).symm
        rw [e, hcl] at hl; exact nomatch hl
  | ins t =>
    obtain ⟨hmk, htanc, kv, hkv⟩ := C.side.ins i t hcl
    obtain ⟨_, hcon, hins⟩ := C.side.ent t i kv hmk hkv
    have hti : t ≠ i := by rintro rfl; rw [hcl] at hmk; exact nomatch hmk
    have hcls : ∀ a, D.cls t = some a → x ≤ a := fun b hb => Nat.le_of_not_lt fun hlt => by
      have h1 : listed.getD i false = true := h0.near i b (by unfold Data.lev; rw [hcl]; exact hb) hlt
      rw [hnl'] at h1; exact nomatch h1
    have hal : alAt ops t = true := C.alAt (Nat.le_refl _) hmk
    have hSt : listed.getD t false = true := hanc t htanc
    have hget : (D.mem ops m0.nb x fun j => listed.getD j false).tr.get (m0.nb + t) = some (entB (D.con t) (insL (D.ent t) fun j => listed.getD j false)) := by
      rw [hext.put (fr_at hal hcls)]
      unfold Data.cnt
      rw [hmk]
      dsimp only
      rw [if_pos hSt]
    have hB : MapB (entB (D.con t) (insL (D.ent t) fun j => listed.getD j false)) (insL (D.ent t) fun j => listed.getD j false) := by
      rw [hcon]
      cases insL (D.ent t) fun j => listed.getD j false with
      | nil => exact .inr ⟨rfl, rfl⟩
      | cons e l => exact .inl rfl
    have hperm := insL_new (kv := kv) (S := fun j => listed.getD j false) hnl' (C.side.nodup t hmk) hkv
    have hS' : insL (D.ent t) (fun j => (listed.setIfInBounds i true).getD j false) = insL (D.ent t) (updN (fun j => listed.getD j false) i true) := insL_congr fun e _ => hnext e.1
    have hcnt' : ∃ l, D.cnt t (fun j => (listed.setIfInBounds i true).getD j false) = .pm l true ∧ l.Perm (insL (D.ent t) (fun j => listed.getD j false) ++ [kv]) := by
      unfold Data.cnt
      rw [hmk]
      dsimp only
      rw [if_pos (hmore hSt), hS']
      cases hl : insL (D.ent t) (updN (fun j => listed.getD j false) i true) with
      | nil => rw [hl] at hperm; exact nomatch hperm.length_eq
      | cons e l => exact ⟨e :: l, rfl, by rw [hl] at hperm; exact hperm.trans (List.perm_append_comm (l₁ := [kv]))⟩
    obtain ⟨l, hl1, hl2⟩ := hcnt'
    have hD := hins o ho _ _ _ hget hB fun e he => by
      obtain ⟨y, hy, hyS, rfl⟩ := mem_insL.1 he
      refine C.side.apart t (i, kv) y hmk hkv hy fun e => ?_
      have e : i = y.1 := e
      rw [← e, hnl'] at hyS; exact nomatch hyS
    refine hD hrho s.rel hlook K Q fun c' w' z s' hz => fin c' w' z x ⟨h0.le, near, far (fun b => by rw [hcl]; exact fun h => nomatch h), (s.trans (s'.weak hb0)).toE ⟨?_, ?_, ?_, fun j => ?_⟩⟩ (s'.le.weak hb0) hz
    · exact hext.nb.trans hext'.nb.symm
    · exact hext.nt.trans hext'.nt.symm
    · exact hext.tok.trans hext'.tok.symm
    · rw [setB_get]
      by_cases hj : j = m0.nb + t
      · subst hj
        rw [if_pos rfl, hext'.put (fr_at hal hcls), hl1]
        exact .inr ⟨_, _, _, rfl, rfl, hl2.symm⟩
      · rw [if_neg hj, hext.tr, hext'.tr]
        refine .inl ?_
        congr 1
        refine (fr_congr_at fun u hu => cnt_congr C (fun h => hother fun e => ?_) fun l hl => hother fun e => ?_).symm
        · rw [e, hcl] at h; exact nomatch h
        · rw [e, hcl] at hl
          have := Cl.ins.inj hl
          exact hj (by rw [hu, this])

theorem all_listed (F : RegF ops) {listed : Array Bool} (hs : listed.size = ops.size) (h : Region.ready .any ops listed = []) : ∀ (j : Nat), j < ops.size → listed.getD j false = true := by
  intro j
  induction j using Nat.strongRecOn with
  | ind j ih =>
    intro hj
    cases hl : listed.getD j false with
    | true => rfl
    | false =>
      exfalso
      have : j ∈ Region.ready .any ops listed := by
        rw [mem_ready]
        refine ⟨?_, ops[j], Array.getElem?_eq_getElem hj, fun e he hb => ?_⟩
        · have : ∀ d, listed.getD j d = listed[j]'(by omega) := fun d => by simp [Array.getD, hs, hj]
          rw [this] at hl ⊢; exact hl
        · have hlt := F.edges j ops[j] e (Array.getElem?_eq_getElem hj) he hb
          exact ih e.on hlt (by omega)
      rw [h] at this
      simp at this

theorem any_ok (F : RegF ops) (C : Cert P ρ ops n env0 m0 ops.size k D cur) {c0 : Cx} {w0 : World} {a0 : Act} (hρ : c0.ρ = ρ) (hn0 : c0.nb = m0.nb) (hg0 : GlobR c0) {Q : Exit → Act → World → Prop}
    (hQ : ∀ a' w', (∃ c, Step c0 m0 w0 c cur w' ∧ EnvR c n (envT ops D.val env0 ops.size) a' ∧ a'.defers = a0.defers) → Q .normal a' w') :
    ∀ (fuel : Nat) (listed : Array Bool) (a : Act) (w : World), listed.count true + fuel = ops.size → Mid P ρ ops n env0 k D c0 m0 w0 a0 listed a w → wpAny P .any ops Q fuel listed a w := by
  have fin : ∀ (listed : Array Bool) (a : Act) (w : World), Mid P ρ ops n env0 k D c0 m0 w0 a0 listed a w → Region.ready .any ops listed = [] → Q .normal a w := by
    intro listed a w M hr
    have hall := all_listed F M.size hr
    obtain ⟨x, c, h0, hpos, hsz, hsl⟩ := M.pos
    have : x = k := by
      rcases hpos with h | ⟨e, h1, h2⟩
      · exact h
      · rw [hall e (C.levlt h1)] at h2; exact nomatch h2
    subst this
    have s := h0.step.sub ((mem_ext (D := D) (ops := ops) (b0 := m0.nb) x fun j => listed.getD j false).sub (fr_gone C h0.le))
    rw [C.top, ← hn0] at s
    refine hQ a w ⟨c, s, ⟨hsz, fun t => ?_, hg0.mono s.le⟩, M.defers⟩
    rw [← envS_all, ← envS_congr (S' := fun j => listed.getD j false) (S := fun _ => true) (fun j hj _ => hall j hj)]
    exact hsl t
  intro fuel
  induction fuel with
  | zero =>
    intro listed a w hc M
    have hr : Region.ready .any ops listed = [] := by
      rw [List.eq_nil_iff_forall_not_mem]
      intro j hj
      obtain ⟨hnl, o, ho, _⟩ := mem_ready.1 hj
      have hjn : j < listed.size := by rw [M.size]; exact (Array.getElem?_eq_some_iff.1 ho).1
      have : listed.count true = listed.size := by rw [M.size]; omega
      have := Array.count_eq_size.1 this listed[j] (Array.getElem_mem _)
      rw [show listed.getD j true = listed[j] by simp [Array.getD, hjn], ← this] at hnl
      simp at hnl
    exact ⟨hr, fin listed a w M hr⟩
  | succ fuel ih =>
    intro listed a w hc M
    refine ⟨fin listed a w M, fun i hi => mid_step F C hρ hn0 hg0 M hi fun a' w' M' => ih _ a' w' ?_ M'⟩
    obtain ⟨hnl, o, ho, _⟩ := mem_ready.1 hi
    have hil : i < listed.size := by rw [M.size]; exact (Array.getElem?_eq_some_iff.1 ho).1
    have hli : listed[i] = false := by
      rw [← hnl]; simp [Array.getD, hil]
    rw [Array.setIfInBounds, dif_pos hil, Array.count_set hil, hli]
    simp
    omega

theorem alsOf_mem : ∀ {l : List Oper} {b s : Nat} {o : Oper}, l[s]? = some o → isAl o.op = true → b + s ∈ alsOf l b
  | [], b, s, o, h, _ => nomatch h
  | x :: l, b, s, o, h, ha => by
    have e : alsOf (x :: l) b = selB (isAl x.op) (b :: alsOf l (b + 1)) (alsOf l (b + 1)) := rfl
    rw [e]
    cases s with
    | zero =>
      obtain rfl := Option.some.inj h
      rw [ha]; exact .head _
    | succ s =>
      have := alsOf_mem (l := l) (b := b + 1) (s := s) h ha
      rw [show b + (s + 1) = b + 1 + s by omega]
      cases isAl x.op with
      | false => exact this
      | true => exact .tail _ this

/-- the start: names are kept for the blocks to come -/
theorem start_at (C : Cert P ρ ops n env0 m0 ops.size k D cur) {c : Cx} {w : World} (hm : MemR c m0 w) : ∃ c1, StepN m0.nb c m0 w c1 (D.mem ops m0.nb 0 fun _ => false) w := by
  let c1 : Cx := { c with nb := c.nb + ops.size, lt := fun i h => Nat.lt_of_lt_of_le (c.lt i h) (Nat.le_add_right _ _) }
  have hle : ∀ {k0}, c.leN k0 c1 := ⟨rfl, Nat.le_add_right _ _, Nat.le_refl _, fun _ h => h, fun _ _ h => h, fun _ _ => rfl, fun _ _ => rfl⟩
  have e := mem_ext (D := D) (ops := ops) (b0 := m0.nb) 0 (fun _ => false)
  have key : ∀ {i b}, (D.mem ops m0.nb 0 fun _ => false).tr.get i = some b → (b = .rsv ∧ ∃ s, i = m0.nb + s ∧ s < ops.size) ∨ m0.tr.get i = some b := by
    intro i b h
    cases hf : D.fr ops m0.nb 0 (fun _ => false) i with
    | none =>
      rw [e.not hf, C.start] at h
      exact .inr h
    | some x =>
      rw [e.put hf] at h
      obtain rfl := Option.some.inj h
      obtain ⟨s, h1, h2, _, h3⟩ := fr_some hf
      refine .inl ⟨?_, s, h1, alAt_lt h2⟩
      rw [h3]
      unfold Data.cnt
      cases D.cl s <;> rfl
  refine ⟨c1, ⟨⟨?_, ?_, fun i b h => ?_, fun i j b b' h h' hij hap l l' => ?_, fun t n ht => hm.tok t n ?_⟩, hle, rfl, rfl, rfl, Nat.le_refl _, fun _ _ _ => rfl, ?_, ?_⟩⟩
  · rw [e.nb, C.start]
    show c.nb + ops.size = m0.nb + ops.size
    rw [hm.nb]
  · rw [e.nt, C.start]; exact hm.nt
  · rcases key h with ⟨rfl, s, rfl, hs⟩ | h
    · refine ⟨?_, fun hh => ?_⟩
      · show m0.nb + s < c.nb + ops.size
        rw [hm.nb]; omega
      · have := c.lt _ hh
        rw [hm.nb] at this; omega
    · exact (hm.blk i b h).on hle fun _ => rfl
  · rcases key h with ⟨rfl, _⟩ | h
    · exact l.elim
    · rcases key h' with ⟨rfl, _⟩ | h'
      · exact l'.elim
      · exact hm.inj i j b b' h h' hij hap ((Blk.live_le (hle (k0 := 0))).1 l) ((Blk.live_le (hle (k0 := 0))).1 l')
  · rw [e.tok, C.start] at ht; exact ht
  · rintro x ⟨i, b, h1, h2, h3⟩
    rcases key h1 with ⟨rfl, _⟩ | h
    · exact nomatch h2
    · exact .inl ⟨i, b, h, h2, h3⟩
  · rintro x ⟨i, b, h1, h2, h3⟩
    rcases key h1 with ⟨rfl, _⟩ | h
    · exact h2.elim
    · exact .inl ⟨i, b, h, (Blk.live_le (hle (k0 := 0))).1 h2, h3⟩
end mid

/-- a region whose order is drawn -/
theorem drawn_ok (F : RegF ops) (hP : P.follows .mixedOrders = true) {cf : FuncId → List V → M V} (hcf : CallsOK P ρ cf) {c : Cx} {m m' : Mem} {w : World} {p q : Pc} {env' : Env} {a : Act} {id : Nat} (hρ : c.ρ = ρ) (hm : MemR c m w) (hp : PcR ρ p) (he : EnvR c n env0 a)
    (h : (evDrB ops P cf n env0).gives ρ m p env' m' q) (Q : Exit → Act → World → Prop) (hQ : ∀ a' w', PcR ρ q → After c m w m' n env' a a' w' → Q .normal a' w') :
    (Code.region id ops true).wp P Q a w := by
  have hlen : lenL ops.toList = ops.size := by rw [lenL_eq]; simp
  have h : (forceN m.nb fun b => evDr ops.toList ops P cf n 0 b (fun _ => 0) env0 [] (alsOf ops.toList b) [] [] (upM m (lenL ops.toList)) p).out ρ = some ⟨env', m', q⟩ := h
  rw [forceN_eq, hlen] at h
  have hm0 : ∀ s, m.tr.get (m.nb + s) = none := fun s => by
    cases hg : m.tr.get (m.nb + s) with
    | none => rfl
    | some b =>
      have := (hm.blk _ b hg).lt
      rw [hm.nb] at this; omega
  let D0 : Data := ⟨fun _ => undefV, fun _ => .rd, fun _ => .rsv, fun _ => [], fun _ => 0, fun _ => none, fun _ => none, fun _ => upM m ops.size⟩
  have C0 : Cert P ρ ops n env0 m 0 0 D0 (upM m ops.size) :=
    ⟨⟨fun _ _ => rfl, fun _ _ _ h => (nomatch h), fun _ _ h => (nomatch h), fun _ _ _ h => (nomatch h), fun _ h => (nomatch h), fun _ _ _ h => (nomatch h)⟩,
      fun _ _ => rfl, fun _ _ _ _ h => (nomatch h), fun _ _ h => (nomatch h), fun _ _ _ h => (nomatch h), fun _ _ h => (nomatch h), fun j _ _ h => by omega, fun a h => by omega, fun a _ h => by omega, fun _ _ h => (nomatch h), fun _ s _ _ _ => hm0 s, rfl, rfl, fun j _ h => by omega⟩
  have N0 : Mind P ρ ops n env0 m 0 0 D0 [] (alsOf ops.toList m.nb) [] [] :=
    ⟨rfl, fun a s hs => by simp at hs, fun s ha _ => by
      unfold alAt at ha
      cases ho : ops[s]? with
      | none => rw [ho] at ha; exact nomatch ha
      | some o => rw [ho] at ha; exact alsOf_mem (by simpa using ho) ha, fun g hg => (nomatch hg), List.nodup_nil, fun j _ h => by omega⟩
  obtain ⟨k, D, C, r2, r4⟩ := evDr_ok hcf (m0 := m) (l := ops.toList) (i := 0) (k := 0) (D := D0) rfl (by simp) rfl (fun j b hb => by simp at hb) hp C0 N0 h
  have hw : MemR c m { w with drawn := w.drawn + 1 } := ⟨hm.nb, hm.nt, fun i b hb => (hm.blk i b hb).on (Cx.le.refl c) fun _ => rfl, hm.inj, hm.tok⟩
  have s0 : Step c m w c m { w with drawn := w.drawn + 1 } := ⟨hw, Cx.le.refl c, rfl, rfl, rfl, Nat.le_refl _, fun _ _ _ => rfl, fun _ h => .inl h, fun _ h => .inl h⟩
  have hnone : ∀ j, (Array.replicate ops.size false).getD j false = false := fun j => by simp [Array.getD, Array.getElem_replicate]
  have hnf : (fun j => (Array.replicate ops.size false).getD j false) = fun _ => false := funext hnone
  obtain ⟨c1, s1⟩ := start_at C hw
  obtain ⟨x, a1, a2⟩ := At0.norm C (S := fun _ => false) k 0 (by omega) ⟨by omega, fun _ _ _ h => by omega, fun _ _ _ _ => rfl, s1⟩
  refine wp_region_any hP (any_ok F C hρ hm.nb he.glob (a0 := a) (w0 := { w with drawn := w.drawn + 1 }) (fun a' w' hA => ?_) ops.size _ a _ (by simp [Array.count_replicate]) ⟨by simp, ?_, ⟨x, c1, ?_, ?_, he.size, ?_⟩, rfl⟩)
  · obtain ⟨c', s, h1, h2⟩ := hA
    exact hQ a' w' r4 ⟨c', s0.trans s, by rw [show env' = _ from r2]; exact h1, h2⟩
  · intro j j' hj
    rw [hnone j] at hj; exact nomatch hj
  · rw [hnf]; exact a1
  · exact a2.imp (fun h => h) fun ⟨e, h1, h2⟩ => ⟨e, h1, hnone e⟩
  · intro t
    have e : envS ops D.val env0 (fun j => (Array.replicate ops.size false).getD j false) ops.size t = env0 t := by
      rw [envS_congr (S := fun j => decide (j < 0)) (fun j hj _ => by simp [Array.getD]), envS_cut (Nat.zero_le _)]
      rfl
    rw [e]; exact (he.slot t).mono s1.le
end run

end Go.Sy

/-
  What is proved here: the evaluator's code and calls are the model's.
  Conditions: none.
-/
namespace Go.Sy

/-- from a loop's round on -/
def RoundWp (P : Program) (c : Code) (Q : Exit → Act → World → Prop) (a : Act) (w : World) : Prop :=
  ∀ (b : Frame) (k : List Item) (cs : List Frame), ∃ e a' w', Q e a' w' ∧ Arrives P (lone (b.at a (.code c :: .inLoop c :: k)) cs w) b k cs e a' w'

theorem RoundWp.round {P : Program} {c : Code} {Q : Exit → Act → World → Prop} {a : Act} {w : World} (h : c.wp P (Exit.then (RoundWp P c Q) Q) a w) : RoundWp P c Q a w := by
  intro b k cs
  obtain ⟨e, a₁, w₁, hq, harr⟩ := h b (.inLoop c :: k) cs
  cases e with
  | normal =>
    obtain ⟨e₂, a₂, w₂, hq₂, harr₂⟩ := hq b k cs
    exact ⟨e₂, a₂, w₂, hq₂, .of_steps (Steps.trans harr (.one step_inLoop)) harr₂⟩
  | exit id => exact ⟨_, a₁, w₁, hq, .pass (x := .inLoop c) rfl (fun _ _ => .inl (by simp)) harr⟩
  | goto l => exact ⟨_, a₁, w₁, hq, .pass (x := .inLoop c) rfl (fun _ _ => .inl (by simp)) harr⟩
  | ret => exact ⟨_, a₁, w₁, hq, .pass (x := .inLoop c) rfl (fun _ _ => .inl (by simp)) harr⟩
  | panic ch => exact ⟨_, a₁, w₁, hq, .pass (x := .inLoop c) rfl (fun _ _ => .inl (by simp)) harr⟩
  | outgrown => exact ⟨_, a₁, w₁, hq, .pass (x := .inLoop c) rfl (fun _ _ => .inl (by simp)) harr⟩

theorem RoundWp.loop {P : Program} {c : Code} {Q : Exit → Act → World → Prop} {a : Act} {w : World} (h : RoundWp P c Q a w) : (Code.loop c).wp P Q a w := by
  intro b k cs
  obtain ⟨e, a', w', hq, harr⟩ := h b k cs
  exact ⟨e, a', w', hq, .of_steps (.one step_loop) harr⟩

def exitOf : X → Exit
  | .normal => .normal
  | .exit id => .exit id
  | .ret => .ret
  | .goto l => .goto l

/-- the code does what the evaluator says -/
def CodeOK (P : Program) (ρ : Nat → Int) (n : Nat) (code : Code) (ev : Env → M XE) : Prop :=
  ∀ ⦃c : Cx⦄ ⦃m m' : Mem⦄ ⦃w : World⦄ ⦃p q : Pc⦄ ⦃env : Env⦄ ⦃r : XE⦄ ⦃a : Act⦄, c.ρ = ρ → MemR c m w → PcR c.ρ p → EnvR c n env a → (ev env).gives c.ρ m p r m' q →
    ∀ (Q : Exit → Act → World → Prop), (∀ a' w', PcR c.ρ q → After c m w m' n r.env a a' w' → Q (exitOf r.x) a' w') → code.wp P Q a w

section ops
variable {P : Program} {ρ : Nat → Int} {n : Nat}

theorem iter0_gives {c : Cx} {m m' : Mem} {p q : Pc} {r : XE} {s : XO} (h : (iter0 r).gives c.ρ m p s m' q) : m' = m ∧ q = p ∧ s.env = r.env ∧ s.x = (match r.x with | .normal => none | x => some x) := by
  obtain ⟨x, env⟩ := r
  cases x
  · obtain ⟨rfl, rfl, rfl⟩ := M.gives_pure (show (M.pure (⟨none, env⟩ : XO)).gives c.ρ m p s m' q from h); exact ⟨rfl, rfl, rfl, rfl⟩
  · obtain ⟨rfl, rfl, rfl⟩ := M.gives_pure (show (M.pure (⟨some (.exit _), env⟩ : XO)).gives c.ρ m p s m' q from h); exact ⟨rfl, rfl, rfl, rfl⟩
  · obtain ⟨rfl, rfl, rfl⟩ := M.gives_pure (show (M.pure (⟨some .ret, env⟩ : XO)).gives c.ρ m p s m' q from h); exact ⟨rfl, rfl, rfl, rfl⟩
  · obtain ⟨rfl, rfl, rfl⟩ := M.gives_pure (show (M.pure (⟨some (.goto _), env⟩ : XO)).gives c.ρ m p s m' q from h); exact ⟨rfl, rfl, rfl, rfl⟩

/-- where a loop goes on -/
def goesTo (P : Program) (code : Code) (Q : Exit → Act → World → Prop) (x : Option X) (a : Act) (w : World) : Prop :=
  match x with
  | none => RoundWp P code Q a w
  | some x => Q (exitOf x) a w

theorem iter_ok {code : Code} {body : Env → M XE} (hb : CodeOK P ρ n code body) : ∀ (k : Nat) {c : Cx} {m m' : Mem} {w : World} {p q : Pc} {env : Env} {r : XO} {a : Act}, c.ρ = ρ → MemR c m w → PcR c.ρ p → EnvR c n env a → (iter body k env).gives c.ρ m p r m' q →
    ∀ (Q : Exit → Act → World → Prop), (∀ a' w', PcR c.ρ q → After c m w m' n r.env a a' w' → goesTo P code Q r.x a' w') → RoundWp P code Q a w
  | 0, c, m, m', w, p, q, env, r, a, hρ, hm, hp, he, h => by
    obtain ⟨r0, m1, p1, h1, h2⟩ := M.gives_bnd (show ((body env).bnd iter0).gives c.ρ m p r m' q from h)
    obtain ⟨rfl, rfl, h3, h4⟩ := iter0_gives h2
    intro Q hQ
    refine RoundWp.round (hb hρ hm hp he h1 _ fun a' w' hq hA => ?_)
    have hg := hQ a' w' hq (by rw [h3]; exact hA)
    obtain ⟨x, env'⟩ := r0
    rw [h4] at hg
    cases x <;> exact hg
  | k + 1, c, m, m', w, p, q, env, r, a, hρ, hm, hp, he, h => by
    obtain ⟨r0, m1, p1, h1, h2⟩ := M.gives_bnd (show ((iter body k env).bnd fun r => onXO r fun x e => (Option.rec (iter body k e) (fun _ => M.pure r) x : M XO)).gives c.ρ m p r m' q from h)
    intro Q hQ
    refine iter_ok hb k hρ hm hp he h1 Q fun a1 w1 hp1 hA => ?_
    obtain ⟨x, env1⟩ := r0
    cases x with
    | none =>
      obtain ⟨c1, s1, he1, hd⟩ := hA
      have hr := s1.le.ρ
      exact iter_ok hb k (hr.trans hρ) s1.rel (by rw [hr]; exact hp1) he1 (by rw [hr]; exact h2) Q fun a2 w2 hq hA2 => hQ a2 w2 (by rw [← hr]; exact hq) (hA2.trans s1 hd)
    | some x =>
      obtain ⟨rfl, rfl, rfl⟩ := M.gives_pure (show (M.pure (⟨some x, env1⟩ : XO)).gives c.ρ m1 p1 r m' q from h2)
      exact hQ a1 w1 hp1 hA

theorem condV_gives {c : Cx} {m : Mem} {p q : Pc} {v : V} {x : Value} {b : Bool} (hp : PcR c.ρ p) (hv : VR c v x) (h : (condV v).gives c.ρ m p b q) : PcR c.ρ q ∧ x = .bool b := by
  obtain ⟨e, rfl, h1⟩ := onBool_gives h
  obtain ⟨h2, h3⟩ := decR_gives hp h1
  rw [VR.bool] at hv
  exact ⟨h3, by rw [hv, h2]⟩

/-! ### labels -/

/-- in a scope, from some code of it on -/
def ScopeWp (P : Program) (body c : Code) (Q : Exit → Act → World → Prop) (a : Act) (w : World) : Prop :=
  ∀ (b : Frame) (k : List Item) (cs : List Frame), ∃ e a' w', Q e a' w' ∧ Arrives P (lone (b.at a (.code c :: .inScope body :: k)) cs w) b k cs e a' w'

/-- what a scope's code leads to -/
def scopeQ (P : Program) (body : Code) (Q : Exit → Act → World → Prop) : Exit → Act → World → Prop
  | .goto l, a, w => match findLabel body l with
    | some rest => ScopeWp P body rest Q a w
    | none => Q (.goto l) a w
  | e, a, w => Q e a w

theorem ScopeWp.of_wp {P : Program} {body c : Code} {Q : Exit → Act → World → Prop} {a : Act} {w : World} (h : c.wp P (scopeQ P body Q) a w) : ScopeWp P body c Q a w := by
  intro b k cs
  obtain ⟨e, a1, w1, hq, harr⟩ := h b (.inScope body :: k) cs
  cases e with
  | normal => exact ⟨.normal, a1, w1, hq, Steps.trans harr (.one step_inScope)⟩
  | exit id => exact ⟨.exit id, a1, w1, hq, fun k' hk => harr k' (by simp [exitTo, hk])⟩
  | goto l =>
    have hq : (match findLabel body l with | some rest => ScopeWp P body rest Q a1 w1 | none => Q (.goto l) a1 w1) := hq
    cases hf : findLabel body l with
    | some rest =>
      rw [hf] at hq
      obtain ⟨e2, a2, w2, hq2, harr2⟩ := hq b k cs
      exact ⟨e2, a2, w2, hq2, .of_steps (harr _ (by simp [gotoIn, hf])) harr2⟩
    | none =>
      rw [hf] at hq
      exact ⟨.goto l, a1, w1, hq, fun k' hk => harr k' (by simp [gotoIn, hf, hk])⟩
  | ret => exact ⟨.ret, a1, w1, hq, harr⟩
  | panic ch => exact ⟨.panic ch, a1, w1, hq, harr⟩
  | outgrown => exact ⟨.outgrown, a1, w1, hq, harr⟩

theorem ScopeWp.scope {P : Program} {body : Code} {Q : Exit → Act → World → Prop} {a : Act} {w : World} (h : ScopeWp P body body Q a w) : (Code.scope body).wp P Q a w := by
  intro b k cs
  obtain ⟨e, a', w', hq, harr⟩ := h b k cs
  exact ⟨e, a', w', hq, .of_steps (.one step_scope) harr⟩

/-- the runs from a code's labels on -/
def FrOK (P : Program) (ρ : Nat → Int) (n : Nat) (code : Code) (fr : Nat → Option (Env → M XE)) : Prop :=
  ∀ l, match fr l with
    | some f => ∃ rest, findLabel code l = some rest ∧ CodeOK P ρ n rest f
    | none => findLabel code l = none

theorem CodeOK.seq {x y : Code} {f g : Env → M XE} (hx : CodeOK P ρ n x f) (hy : CodeOK P ρ n y g) : CodeOK P ρ n (.seq x y) (seqRun f g) := by
  intro c m m' w p q env r a hρ hm hp he h Q hQ
  obtain ⟨r0, m1, p1, h1, h2⟩ := M.gives_bnd (show ((f env).bnd fun r => onXE r fun z e => (X.rec (g e) (fun _ => M.pure r) (M.pure r) (fun _ => M.pure r) z : M XE)).gives c.ρ m p r m' q from h)
  refine wp_seq (hx hρ hm hp he h1 _ fun a1 w1 hp1 hA => ?_)
  obtain ⟨z, env1⟩ := r0
  cases z with
  | normal =>
    obtain ⟨c1, s1, he1, hd⟩ := hA
    have hr := s1.le.ρ
    exact hy (hr.trans hρ) s1.rel (by rw [hr]; exact hp1) he1 (by rw [hr]; exact h2) Q fun a2 w2 hq hA2 => hQ a2 w2 (by rw [← hr]; exact hq) (hA2.trans s1 hd)
  | exit id =>
    obtain ⟨rfl, rfl, rfl⟩ := M.gives_pure (show (M.pure (⟨.exit id, env1⟩ : XE)).gives c.ρ m1 p1 r m' q from h2)
    exact hQ a1 w1 hp1 hA
  | ret =>
    obtain ⟨rfl, rfl, rfl⟩ := M.gives_pure (show (M.pure (⟨.ret, env1⟩ : XE)).gives c.ρ m1 p1 r m' q from h2)
    exact hQ a1 w1 hp1 hA
  | goto l =>
    obtain ⟨rfl, rfl, rfl⟩ := M.gives_pure (show (M.pure (⟨.goto l, env1⟩ : XE)).gives c.ρ m1 p1 r m' q from h2)
    exact hQ a1 w1 hp1 hA

theorem scopeX_ok {body : Code} {fr : Nat → Option (Env → M XE)} (hfr : FrOK P ρ n body fr) : ∀ (k : Nat) {c : Cx} {m m1 m' : Mem} {w w1 : World} {p1 q : Pc} {r0 r : XE} {a a1 : Act}, c.ρ = ρ → PcR c.ρ p1 → After c m w m1 n r0.env a a1 w1 → (scopeX fr k r0).gives c.ρ m1 p1 r m' q →
    ∀ (Q : Exit → Act → World → Prop), (∀ a' w', PcR c.ρ q → After c m w m' n r.env a a' w' → Q (exitOf r.x) a' w') → scopeQ P body Q (exitOf r0.x) a1 w1
  | 0, c, m, m1, m', w, w1, p1, q, r0, r, a, a1, hρ, hp1, hA, h, Q, hQ => (M.gives_fail (s := "jumps") h).elim
  | k + 1, c, m, m1, m', w, w1, p1, q, r0, r, a, a1, hρ, hp1, hA, h, Q, hQ => by
    obtain ⟨z, env1⟩ := r0
    have plain : (M.pure (⟨z, env1⟩ : XE)).gives c.ρ m1 p1 r m' q → Q (exitOf z) a1 w1 := fun h => by
      obtain ⟨rfl, rfl, rfl⟩ := M.gives_pure h
      exact hQ a1 w1 hp1 hA
    cases z with
    | normal => exact plain h
    | exit id => exact plain h
    | ret => exact plain h
    | goto l =>
      have h : (Option.rec (M.pure ⟨.goto l, env1⟩) (fun f => (f env1).bnd (scopeX fr k)) (fr l) : M XE).gives c.ρ m1 p1 r m' q := h
      have hf := hfr l
      show (match findLabel body l with | some rest => ScopeWp P body rest Q a1 w1 | none => Q (.goto l) a1 w1)
      cases he : fr l with
      | none =>
        rw [he] at h hf
        have hf : findLabel body l = none := hf
        rw [hf]
        exact plain h
      | some f =>
        rw [he] at h hf
        obtain ⟨rest, hl, hok⟩ := hf
        rw [hl]
        obtain ⟨r1, m2, p2, h1, h2⟩ := M.gives_bnd (show ((f env1).bnd (scopeX fr k)).gives c.ρ m1 p1 r m' q from h)
        obtain ⟨c1, s1, he1, hd⟩ := hA
        have hr := s1.le.ρ
        refine ScopeWp.of_wp (hok (hr.trans hρ) s1.rel (by rw [hr]; exact hp1) he1 (by rw [hr]; exact h1) _ fun a2 w2 hq hA2 => ?_)
        exact scopeX_ok hfr k hρ (by rw [← hr]; exact hq) (hA2.trans s1 hd) h2 Q hQ

theorem FrOK.none {code : Code} (h : ∀ l, findLabel code l = .none) : FrOK P ρ n code (fun _ => .none) := fun l => h l

theorem evC_ok (hM : P.follows .mixedOrders = true) {cf : FuncId → List V → M V} (hcf : CallsOK P ρ cf) (it : Nat) : ∀ (code : Code), codeRegs code = true → CodeOK P ρ n code (evC code P cf it n).run ∧ FrOK P ρ n code (evC code P cf it n).fr
  | .skip, _ => by
    refine ⟨?_, FrOK.none fun _ => rfl⟩
    intro c m m' w p q env r a hρ hm hp he h Q hQ
    obtain ⟨rfl, rfl, rfl⟩ := M.gives_pure (show (M.pure (⟨.normal, env⟩ : XE)).gives c.ρ m p r m' q from h)
    exact wp_skip (hQ a w hp ⟨c, Step.refl hm, he, rfl⟩)
  | .label k, _ => by
    refine ⟨?_, fun l => ?_⟩
    · intro c m m' w p q env r a hρ hm hp he h Q hQ
      obtain ⟨rfl, rfl, rfl⟩ := M.gives_pure (show (M.pure (⟨.normal, env⟩ : XE)).gives c.ρ m p r m' q from h)
      exact wp_label (hQ a w hp ⟨c, Step.refl hm, he, rfl⟩)
    · show match selB (Nat.beq k l) (some fun env => M.pure (⟨.normal, env⟩ : XE)) Option.none with | some f => _ | Option.none => _
      cases hb : Nat.beq k l with
      | true =>
        rw [beq_iff] at hb
        subst hb
        refine ⟨.skip, by simp [findLabel], ?_⟩
        intro c m m' w p q env r a hρ hm hp he h Q hQ
        obtain ⟨rfl, rfl, rfl⟩ := M.gives_pure (show (M.pure (⟨.normal, env⟩ : XE)).gives c.ρ m p r m' q from h)
        exact wp_skip (hQ a w hp ⟨c, Step.refl hm, he, rfl⟩)
      | false =>
        rw [beq_false] at hb
        show findLabel (.label k) l = Option.none
        simp [findLabel, hb]
  | .exit id, _ => by
    refine ⟨?_, FrOK.none fun _ => rfl⟩
    intro c m m' w p q env r a hρ hm hp he h Q hQ
    obtain ⟨rfl, rfl, rfl⟩ := M.gives_pure (show (M.pure (⟨.exit id, env⟩ : XE)).gives c.ρ m p r m' q from h)
    exact wp_exit (hQ a w hp ⟨c, Step.refl hm, he, rfl⟩)
  | .goto l, _ => by
    refine ⟨?_, FrOK.none fun _ => rfl⟩
    intro c m m' w p q env r a hρ hm hp he h Q hQ
    obtain ⟨rfl, rfl, rfl⟩ := M.gives_pure (show (M.pure (⟨.goto l, env⟩ : XE)).gives c.ρ m p r m' q from h)
    exact wp_goto (hQ a w hp ⟨c, Step.refl hm, he, rfl⟩)
  | .ret, _ => by
    refine ⟨?_, FrOK.none fun _ => rfl⟩
    intro c m m' w p q env r a hρ hm hp he h Q hQ
    obtain ⟨rfl, rfl, rfl⟩ := M.gives_pure (show (M.pure (⟨.ret, env⟩ : XE)).gives c.ρ m p r m' q from h)
    exact wp_ret (hQ a w hp ⟨c, Step.refl hm, he, rfl⟩)
  | .seq x y, hR => by
    obtain ⟨hR1, hR2⟩ := Bool.and_eq_true_iff.1 (show (codeRegs x && codeRegs y) = true from hR)
    obtain ⟨hx, fx⟩ := evC_ok hM hcf it x hR1
    obtain ⟨hy, fy⟩ := evC_ok hM hcf it y hR2
    refine ⟨hx.seq hy, fun l => ?_⟩
    have gx := fx l
    have gy := fy l
    show match (Option.rec ((evC y P cf it n).fr l) (fun f => some (seqRun f (evC y P cf it n).run)) ((evC x P cf it n).fr l) : Option (Env → M XE)) with | some f => _ | Option.none => _
    cases hf : (evC x P cf it n).fr l with
    | some f =>
      rw [hf] at gx
      obtain ⟨rest, h1, h2⟩ := gx
      exact ⟨.seq rest y, by simp [findLabel, h1], h2.seq hy⟩
    | none =>
      rw [hf] at gx
      have gx : findLabel x l = Option.none := gx
      show match (evC y P cf it n).fr l with | some f => _ | Option.none => _
      cases hg : (evC y P cf it n).fr l with
      | some f =>
        rw [hg] at gy
        obtain ⟨rest, h1, h2⟩ := gy
        exact ⟨rest, by simp [findLabel, gx, h1], h2⟩
      | none =>
        rw [hg] at gy
        have gy : findLabel y l = Option.none := gy
        show findLabel (.seq x y) l = Option.none
        simp [findLabel, gx, gy]
  | .cond k x y, hR => by
    obtain ⟨hR1, hR2⟩ := Bool.and_eq_true_iff.1 (show (codeRegs x && codeRegs y) = true from hR)
    have hx := (evC_ok hM hcf it x hR1).1
    have hy := (evC_ok hM hcf it y hR2).1
    refine ⟨?_, FrOK.none fun _ => rfl⟩
    intro c m m' w p q env r a hρ hm hp he h Q hQ
    obtain ⟨b, p1, h1, h2⟩ := R.gives_thn (show ((condV (opd k env)).thn fun b => (Bool.rec ((evC y P cf it n).run env) ((evC x P cf it n).run env) b : M XE)).gives c.ρ m p r m' q from h)
    obtain ⟨h3, h4⟩ := condV_gives hp (opd_ok he k) h1
    cases b with
    | false => exact wp_cond_false h4 (hy hρ hm h3 he h2 Q hQ)
    | true => exact wp_cond_true h4 (hx hρ hm h3 he h2 Q hQ)
  | .block id x, hR => by
    have hx := (evC_ok hM hcf it x hR).1
    refine ⟨?_, FrOK.none fun _ => rfl⟩
    intro c m m' w p q env r a hρ hm hp he h Q hQ
    obtain ⟨r0, m1, p1, h1, h2⟩ := M.gives_bnd (show (((evC x P cf it n).run env).bnd (blockX id)).gives c.ρ m p r m' q from h)
    refine wp_block (hx hρ hm hp he h1 _ fun a1 w1 hp1 hA => ?_)
    obtain ⟨z, env1⟩ := r0
    cases z with
    | normal =>
      obtain ⟨rfl, rfl, rfl⟩ := M.gives_pure (show (M.pure (⟨.normal, env1⟩ : XE)).gives c.ρ m1 p1 r m' q from h2)
      exact hQ a1 w1 hp1 hA
    | ret =>
      obtain ⟨rfl, rfl, rfl⟩ := M.gives_pure (show (M.pure (⟨.ret, env1⟩ : XE)).gives c.ρ m1 p1 r m' q from h2)
      exact hQ a1 w1 hp1 hA
    | goto l =>
      obtain ⟨rfl, rfl, rfl⟩ := M.gives_pure (show (M.pure (⟨.goto l, env1⟩ : XE)).gives c.ρ m1 p1 r m' q from h2)
      exact hQ a1 w1 hp1 hA
    | exit i =>
      obtain ⟨rfl, rfl, rfl⟩ := M.gives_pure (show (M.pure (⟨selB (Nat.beq i id) .normal (.exit i), env1⟩ : XE)).gives c.ρ m1 p1 r m' q from h2)
      have hq := hQ a1 w1 hp1 hA
      show Exit.inBlock id Q (.exit i) a1 w1
      cases hb : Nat.beq i id with
      | true =>
        rw [hb] at hq
        rw [beq_iff] at hb; subst hb
        simp only [Exit.inBlock, if_true]; exact hq
      | false =>
        rw [hb] at hq
        rw [beq_false] at hb
        simp only [Exit.inBlock, if_neg hb]; exact hq
  | .loop x, hR => by
    have hx := (evC_ok hM hcf it x hR).1
    refine ⟨?_, FrOK.none fun _ => rfl⟩
    intro c m m' w p q env r a hρ hm hp he h Q hQ
    obtain ⟨r0, m1, p1, h1, h2⟩ := M.gives_bnd (show ((iter (evC x P cf it n).run it env).bnd loopX).gives c.ρ m p r m' q from h)
    refine RoundWp.loop (iter_ok hx it hρ hm hp he h1 Q fun a1 w1 hp1 hA => ?_)
    obtain ⟨z, env1⟩ := r0
    cases z with
    | none => exact (M.gives_fail (s := "loop more rounds") h2).elim
    | some z =>
      obtain ⟨rfl, rfl, rfl⟩ := M.gives_pure (show (M.pure (⟨z, env1⟩ : XE)).gives c.ρ m1 p1 r m' q from h2)
      exact hQ a1 w1 hp1 hA
  | .scope x, hR => by
    obtain ⟨hx, fx⟩ := evC_ok hM hcf it x hR
    refine ⟨?_, FrOK.none fun _ => rfl⟩
    intro c m m' w p q env r a hρ hm hp he h Q hQ
    obtain ⟨r0, m1, p1, h1, h2⟩ := M.gives_bnd (show (((evC x P cf it n).run env).bnd (scopeX (evC x P cf it n).fr 6)).gives c.ρ m p r m' q from h)
    exact ScopeWp.scope (ScopeWp.of_wp (hx hρ hm hp he h1 _ fun a1 w1 hp1 hA => scopeX_ok fx 6 hρ hp1 hA h2 Q hQ))
  | .region id ops d, hR => by
    refine ⟨?_, FrOK.none fun _ => rfl⟩
    intro c m m' w p q env r a hρ hm hp he h Q hQ
    have h : (selB d (evDrawn ops P cf n env) (evReg ops P cf n env)).gives c.ρ m p r m' q := h
    cases d with
    | true =>
      obtain ⟨env1, m1, p1, h1, h2⟩ := M.gives_bnd (show ((evDrB ops P cf n env).bnd fun env => M.pure (⟨.normal, env⟩ : XE)).gives c.ρ m p r m' q from h)
      obtain ⟨rfl, rfl, rfl⟩ := M.gives_pure h2
      have hR : regOK ops = true := by simpa [codeRegs] using hR
      refine drawn_ok (regF_of hR) hM hcf hρ hm (by rw [← hρ]; exact hp) he (by rw [← hρ]; exact h1) Q fun a' w' hq hA => hQ a' w' (by rw [hρ]; exact hq) hA
    | false =>
      obtain ⟨env1, m1, p1, h1, h2⟩ := M.gives_bnd (show ((evSeq ops.toList ops P cf n env).bnd fun env => M.pure (⟨.normal, env⟩ : XE)).gives c.ρ m p r m' q from h)
      obtain ⟨rfl, rfl, rfl⟩ := M.gives_pure h2
      exact wp_region_list (evSeq_ok hcf hρ hm hp he h1 Q hQ)
  | .rangeFunc _ _ _ _, _ => ⟨by intro c m m' w p q env r a hρ hm hp he h; exact (M.gives_fail (s := "code") h).elim, FrOK.none fun _ => rfl⟩
  | .refuse _, _ => ⟨by intro c m m' w p q env r a hρ hm hp he h; exact (M.gives_fail (s := "code") h).elim, FrOK.none fun _ => rfl⟩

theorem evCode_ok (hM : P.follows .mixedOrders = true) {cf : FuncId → List V → M V} (hcf : CallsOK P ρ cf) (it : Nat) (code : Code) (hR : codeRegs code = true) : CodeOK P ρ n code (evCode code P cf it n) := (evC_ok hM hcf it code hR).1
end ops

end Go.Sy

/-
  What is proved here: the evaluator's calls are the model's.
  Conditions: none of the program's functions bears a certain name of Go's runtime.
-/
namespace Go.Sy

/-- what the evaluator asks of a function -/
noncomputable def goodFn (fn : Func) : Bool := !(fn.name == "runtime.NumGoroutine") && (match fn.body with | none => true | some c => codeRegs c)

/-- what the evaluator asks of a program: no function is the one that the model answers itself; the slots of each region are in order; Go's own orders -/
structure Plain (P : Program) : Prop where
  fns : ∀ (f : FuncId) (fn : Func), P.funcs[f]? = some fn → goodFn fn = true
  mixed : P.follows .mixedOrders = true

theorem Plain.of {P : Program} (h : P.funcs.toList.all goodFn = true) (hm : P.follows .mixedOrders = true) : Plain P :=
  ⟨fun f fn hf => List.all_eq_true.1 h fn (by have := Array.mem_of_getElem? hf; simpa using this), hm⟩

section ops
variable {P : Program} {ρ : Nat → Int}

/-- a result -/
def res1S (tmps : Array Value) : ResultVar → Sem Value
  | .tmp t => pure (tmps.getD t undef)
  | .cell a t => do loadVar t (← asAddr (tmps.getD a undef))

theorem res1_ok {c : Cx} {m : Mem} {w : World} {p q : Pc} {n : Nat} {env : Env} {a : Act} (hm : MemR c m w) (hp : PcR c.ρ p) (he : EnvR c n env a) {r : ResultVar} {v : V} (h : (res1 r P env).gives c.ρ m p v q) :
    q = p ∧ ∃ z, (res1S a.tmps r).run P w = .ok z w ∧ VR c v z := by
  cases r with
  | tmp t =>
    obtain ⟨rfl, rfl⟩ := R.gives_pure (show (R.pure (env t)).gives c.ρ m p v q from h)
    exact ⟨rfl, _, rfl, he.slot t⟩
  | cell s t =>
    obtain ⟨rfl, i, o, hx, y, h1, h2⟩ := loadPtr_ok hm hp (he.slot s) (show (loadPtr P t (env s)).gives c.ρ m p v q from h)
    refine ⟨rfl, y, ?_, h2⟩
    simp only [res1S, hx, asAddr, Sem.run_bind, Sem.run_pure, Result.andThen_ok, h1]

theorem resV_ok {c : Cx} {m : Mem} {w : World} {n : Nat} {env : Env} {a : Act} (hm : MemR c m w) (he : EnvR c n env a) : ∀ {rs : List ResultVar} {p q : Pc} {l : List V}, PcR c.ρ p → (resV rs P env).gives c.ρ m p l q →
    q = p ∧ ∃ zs, (rs.mapM (res1S a.tmps)).run P w = .ok zs w ∧ VRs c l zs
  | [], p, q, l, _, h => by
    obtain ⟨rfl, rfl⟩ := R.gives_pure (show (R.pure []).gives c.ρ m p l q from h)
    exact ⟨rfl, [], rfl, VRs.nil⟩
  | r :: rs, p, q, l, hp, h => by
    obtain ⟨v, p1, h1, h2⟩ := R.gives_bnd (show ((res1 r P env).bnd fun v => (resV rs P env).bnd fun r => R.pure (v :: r)).gives c.ρ m p l q from h)
    obtain ⟨rfl, z, h3, h4⟩ := res1_ok hm hp he h1
    obtain ⟨l', p2, h5, h6⟩ := R.gives_bnd h2
    obtain ⟨rfl, zs, h7, h8⟩ := resV_ok hm he hp h5
    obtain ⟨rfl, rfl⟩ := R.gives_pure h6
    refine ⟨rfl, z :: zs, ?_, VRs.cons h4 h8⟩
    rw [List.mapM_cons, Sem.run_bind, h3, Result.andThen_ok, Sem.run_bind, h7, Result.andThen_ok, Sem.run_pure]

theorem results_ok {c : Cx} {m : Mem} {w : World} {n : Nat} {env : Env} {a : Act} (hm : MemR c m w) (he : EnvR c n env a) {fn : Func} {p q : Pc} {l : List V} (hp : PcR c.ρ p) (h : (resV fn.results.toList P env).gives c.ρ m p l q) :
    q = p ∧ ∃ z, (results fn a.tmps).run P w = .ok z w ∧ VR c (oneV l) z := by
  obtain ⟨rfl, zs, h1, h2⟩ := resV_ok hm he hp h
  have hF : results fn a.tmps = (do let vs ← Array.mapM (res1S a.tmps) fn.results; pure (if h : vs.size = 1 then vs[0] else .tuple vs)) := by
    unfold results
    congr 1
  refine ⟨rfl, (if h : zs.toArray.size = 1 then zs.toArray[0] else .tuple zs.toArray), ?_, ?_⟩
  · rw [hF, Array.mapM_eq_mapM_toList, Sem.run_bind, Sem.run_map, h1]
    rfl
  · cases l with
    | nil =>
      rw [VRs.nil_iff] at h2; subst h2
      exact VR.tuple.2 ⟨#[], rfl, VRs.nil⟩
    | cons v l =>
      obtain ⟨x, ys, rfl, h3, h4⟩ := VRs.cons_iff.1 h2
      cases l with
      | nil => rw [VRs.nil_iff] at h4; subst h4; exact h3
      | cons u l =>
        obtain ⟨y, zs, rfl, h5, h6⟩ := VRs.cons_iff.1 h4
        rw [dif_neg (by simp)]
        exact VR.tuple.2 ⟨_, rfl, VRs.cons h3 (VRs.cons h5 h6)⟩

theorem setArgs_ok {c : Cx} : ∀ {l : List V} {xs : List Value} (i : Nat) {env : Env} {old : List Value}, old.length = i → VRs c l xs → (∀ j, VR c (env j) (old[j]?.getD undef)) → ∀ j, VR c (setArgs l i env j) ((old ++ xs)[j]?.getD undef)
  | [], xs, i, env, old, _, h, he, j => by
    rw [VRs.nil_iff] at h; subst h
    rw [List.append_nil]; exact he j
  | v :: l, xs, i, env, old, ho, h, he, j => by
    obtain ⟨x, ys, rfl, h1, h2⟩ := VRs.cons_iff.1 h
    have e : old ++ x :: ys = (old ++ [x]) ++ ys := by simp
    rw [e]
    refine setArgs_ok (i + 1) (by simp [ho]) h2 (fun j => ?_) j
    show VR c (Bool.rec (env j) v (Nat.beq j i)) _
    cases hj : Nat.beq j i with
    | true =>
      rw [beq_iff] at hj; subst hj
      have : (old ++ [x])[j]? = some x := by rw [List.getElem?_append_right (by omega)]; simp [ho]
      rw [this]; exact h1
    | false =>
      rw [beq_false] at hj
      have : (old ++ [x])[j]?.getD undef = old[j]?.getD undef := by
        rcases Nat.lt_or_ge j i with hlt | hge
        · rw [List.getElem?_append_left (by omega)]
        · rw [List.getElem?_eq_none (by simp; omega), List.getElem?_eq_none (by omega)]
      rw [this]; exact he j

theorem env_ok {c : Cx} (hg : GlobR c) {l : List V} {args : Array Value} (k : Nat) (h : VRs c l args.toList) :
    EnvR c (slots k l) (setArgs l 0 env0) { tmps := args ++ Array.replicate (k - args.size) undef, defers := [] } := by
  have hl : l.length = args.size := by have := h.length; simpa using this.symm
  refine ⟨?_, fun j => ?_, hg⟩
  · rw [Array.size_append, Array.size_replicate]
    show _ = (Bool.rec (lenL l) k (Nat.ble (lenL l) k) : Nat)
    rw [lenL_eq, hl]
    cases hb : Nat.ble args.size k with
    | true => rw [ble_iff] at hb; show _ = k; omega
    | false =>
      have : ¬ args.size ≤ k := fun e => by rw [(ble_iff _ _).2 e] at hb; simp at hb
      show _ = args.size; omega
  · have h1 := setArgs_ok (c := c) (l := l) (xs := args.toList) 0 (env := env0) (old := []) rfl h (fun j => by rw [List.getElem?_nil]; exact VR.undef) j
    have : (args ++ Array.replicate (k - args.size) undef).getD j undef = ([] ++ args.toList)[j]?.getD undef := by
      rw [Array.getD_eq_getD_getElem?, Array.getElem?_append, List.nil_append, Array.getElem?_toList]
      by_cases hj : j < args.size
      · rw [if_pos hj]
      · rw [if_neg hj, Array.getElem?_replicate, Array.getElem?_eq_none (by omega)]
        split <;> rfl
    rw [this]; exact h1

/-- the evaluator's run of f is the model's -/
def FnOK (P : Program) (ρ : Nat → Int) (f : FuncId) (ev : List V → M V) : Prop :=
  ∀ (l : List V) (c : Cx) (m m' : Mem) (w : World) (p q : Pc) (v : V) (args : Array Value), c.ρ = ρ → MemR c m w → PcR c.ρ p → GlobR c → VRs c l args.toList → (ev l).gives c.ρ m p v m' q → CallOK P f args c m w m' v q

/-- what is known is so -/
def KwOK (P : Program) (ρ : Nat → Int) (kw : Kw) : Prop :=
  ∀ (f : FuncId) (tr : (List V → M V) → List V → M V), kw f = some tr → ∀ ev, FnOK P ρ f ev → FnOK P ρ f (tr ev)

theorem kw0_ok : KwOK P ρ kw0 := fun f s h => by simp [kw0] at h

theorem evOne_ok (hP : Plain P) (it : Nat) {cf : FuncId → List V → M V} (hcf : CallsOK P ρ cf) (f : FuncId) : FnOK P ρ f (evOne P cf it f) := by
    intro l c m m' w p q v args hρ hm hp hg hl h
    have h : (Option.rec (M.fail "no such function") (fun fn => evBody P cf it fn l) P.funcs[f]? : M V).gives c.ρ m p v m' q := h
    cases hf : P.funcs[f]? with
    | none => rw [hf] at h; exact (M.gives_fail (s := "no such function") h).elim
    | some fn =>
      rw [hf] at h
      have h : (Option.rec (M.fail fn.name) (fun co => (evCode co P cf it (slots fn.ntmps l) (setArgs l 0 env0)).bnd (endX P fn)) fn.body : M V).gives c.ρ m p v m' q := h
      cases hb : fn.body with
      | none => rw [hb] at h; exact (M.gives_fail (s := fn.name) h).elim
      | some co =>
        rw [hb] at h
        obtain ⟨r, m1, p1, h1, h2⟩ := M.gives_bnd (show ((evCode co P cf it (slots fn.ntmps l) (setArgs l 0 env0)).bnd (endX P fn)).gives c.ρ m p v m' q from h)
        refine ⟨⟨fn, hf, by rw [hb]; rfl, by have := hP.fns f fn hf; simp [goodFn] at this; simpa using this.1⟩, calls_of_wp hf hb ?_⟩
        have hR : codeRegs co = true := by have := hP.fns f fn hf; simp [goodFn, hb] at this; exact this.2
        refine evCode_ok hP.mixed hcf it co hR hρ hm hp (env_ok hg fn.ntmps hl) h1 _ fun a w' hq hA => ?_
        obtain ⟨c1, s1, he1, hd⟩ := hA
        obtain ⟨x, env1⟩ := r
        have hr := s1.le.ρ
        have key : (∀ id, x ≠ .exit id ∧ x ≠ .goto id) → ((resV fn.results.toList P env1).thn fun l => M.pure (oneV l)).gives c.ρ m1 p1 v m' q →
            a.defers = [] ∧ ∃ y, (results fn a.tmps).run P w' = .ok y w' ∧ ∃ c' z, Ending.returned y = .returned z ∧ Step c m w c' m' w' ∧ VR c' v z ∧ PcR c.ρ q := by
          intro _ h3
          obtain ⟨rs, p2, h4, h5⟩ := R.gives_thn h3
          rw [← hr] at h4
          obtain ⟨rfl, z, h6, h7⟩ := results_ok s1.rel he1 (by rw [hr]; exact hq) h4
          obtain ⟨rfl, rfl, rfl⟩ := M.gives_pure h5
          exact ⟨hd, z, h6, c1, z, rfl, s1, h7, hq⟩
        cases x with
        | exit id => exact (M.gives_fail (s := "an exit") h2).elim
        | goto l => exact (M.gives_fail (s := "a goto") h2).elim
        | normal => exact key (fun _ => ⟨nofun, nofun⟩) h2
        | ret => exact key (fun _ => ⟨nofun, nofun⟩) h2

theorem evFn_ok (hP : Plain P) {kw : Kw} (hkw : KwOK P ρ kw) (it : Nat) : ∀ d, CallsOK P ρ (evFn P kw it d)
  | 0 => by
    intro f l c m m' w p q v args _ _ _ _ _ h
    exact (M.gives_fail (s := "calls too deep") h).elim
  | d + 1 => by
    have hone := fun f => evOne_ok hP it (evFn_ok hP hkw it d) f
    intro f l c m m' w p q v args hρ hm hp hg hl h
    have h : (Option.rec (evOne P (evFn P kw it d) it f) (fun tr => tr (evOne P (evFn P kw it d) it f)) (kw f) l : M V).gives c.ρ m p v m' q := h
    cases hk : kw f with
    | none => rw [hk] at h; exact hone f l c m m' w p q v args hρ hm hp hg hl h
    | some tr => rw [hk] at h; exact hkw f tr hk _ (hone f) l c m m' w p q v args hρ hm hp hg hl h
end ops
end Go.Sy

/-
  What is proved here: from a run of the evaluator to the model's call: it returns true, and what was there before is as it was.
  Conditions: none.
-/
namespace Go.Sy
open Go.RowKit (Below)

/-- every leaf is the value true -/
noncomputable def allTrue (t : T (Rs V)) : Bool := (T.rec (motive := fun _ => Bool) (fun r => onBool r.v (fun b => (B.rec (motive := fun _ => Bool) (fun v => v) (fun _ _ => false) (fun _ _ => false) (fun _ _ => false) (b))) false) (fun _ _ _ ix iy => andB ix iy) (fun _ => false) (t))

theorem allTrue_out (ρ : Nat → Int) : ∀ {t : T (Rs V)}, allTrue t = true → ∃ m q, t.out ρ = some ⟨.bool (.lit true), m, q⟩
  | .ret ⟨v, m, q⟩, h => by
    have h : onBool v (fun b => (B.rec (fun v => v) (fun _ _ => false) (fun _ _ => false) (fun _ _ => false) b : Bool)) false = true := h
    rcases onBool_cases v (fun b => (B.rec (fun v => v) (fun _ _ => false) (fun _ _ => false) (fun _ _ => false) b : Bool)) false with ⟨b, rfl, he⟩ | he <;> rw [he] at h
    · cases b with
      | lit u =>
        have h : u = true := h
        subst h; exact ⟨m, q, rfl⟩
      | _ => exact absurd (show false = true from h) (by simp)
    · simp at h
  | .br c x y, h => by
    obtain ⟨h1, h2⟩ := andB_ok (show andB (allTrue x) (allTrue y) = true from h)
    obtain ⟨m, q, e1⟩ := allTrue_out ρ h1
    obtain ⟨m', q', e2⟩ := allTrue_out ρ h2
    simp only [T.out]
    cases c.den ρ with
    | true => exact ⟨m, q, by simpa using e1⟩
    | false => exact ⟨m', q', by simpa using e2⟩
  | .fail s, h => absurd (show false = true from h) (by simp)

/-- the memory at the start: the variables that are laid -/
noncomputable def layG (l : List (Nat × List V)) : Tr Blk := (List.rec (motive := fun _ => Tr Blk) (.nil) (fun g _ ih => ih.set g.1 (.cells g.2 false false none)) (l))

noncomputable def mem0 (g : List (Nat × List V)) : Mem := ⟨layG g, 4096, .nil, 0⟩

def pc0 : Pc := ⟨[], []⟩

/-- the abstract names at the start -/
def cx0 (ρ : Nat → Int) : Cx := ⟨fun i => (i, 0), fun _ => 0, ρ, 4096, 0, fun i => i < 4096, fun _ h => h⟩

theorem layG_get {i : Nat} {b : Blk} : ∀ {g : List (Nat × List V)}, (layG g).get i = some b → ∃ l, (i, l) ∈ g ∧ b = .cells l false false none
  | [], h => by simp [layG, Tr.get] at h
  | x :: g, h => by
    have h : ((layG g).set x.1 (.cells x.2 false false none)).get i = some b := h
    rw [Tr.get_set] at h
    split at h
    · rename_i e
      simp at h
      exact ⟨x.2, by rw [e]; exact .head _, h.symm⟩
    · obtain ⟨l, h1, h2⟩ := layG_get h
      exact ⟨l, .tail _ h1, h2⟩

theorem mem0_ok {ρ : Nat → Int} {g : List (Nat × List V)} {w : World} (h : ∀ x ∈ g, x.1 < 4096 ∧ BlkR (cx0 ρ) w (x.1, 0) (.cells x.2 false false none)) : MemR (cx0 ρ) (mem0 g) w := by
  refine ⟨rfl, rfl, ?_, ?_, ?_⟩
  · intro i b hb
    obtain ⟨l, h1, rfl⟩ := layG_get (show (layG g).get i = some b from hb)
    exact h _ h1
  · intro i j b b' hb hb' hij hap _ _
    obtain ⟨l, h1, rfl⟩ := layG_get (show (layG g).get i = some b from hb)
    obtain ⟨l', h2, rfl⟩ := layG_get (show (layG g).get j = some b' from hb')
    exact absurd hap (by simp [Blk.apt, Blk.wrB, Blk.plB])
  · intro t n h
    simp [mem0, Tr.get] at h

theorem pc0_ok {ρ : Nat → Int} : PcR ρ pc0 := ⟨fun c hc => by simp [pc0] at hc, fun i lo hi h => by simp [pc0] at h⟩

theorem glob0 {ρ : Nat → Int} : GlobR (cx0 ρ) := ⟨Nat.le_refl _, fun _ h => ⟨h, rfl⟩⟩

theorem Step.below {c c' : Cx} {m m' : Mem} {w w' : World} (s : Step c m w c' m' w') (h : ∀ b, ¬ Wr c m b) : Below w.heap.size w w' :=
  ⟨s.os, s.tape, s.output, s.size, fun k hk => s.frame k hk (h k)⟩

theorem mem0_wr {ρ : Nat → Int} {g : List (Nat × List V)} : ∀ b, ¬ Wr (cx0 ρ) (mem0 g) b := by
  rintro b ⟨i, blk, h1, h2, _⟩
  obtain ⟨l, _, rfl⟩ := layG_get (show (layG g).get i = some blk from h1)
  simp [Blk.wrB] at h2

/-- a closed call that returns true -/
theorem closed_ok {P : Program} (hP : Plain P) {kw : Kw} (hkw : KwOK P (fun _ => 0) kw) {it d : Nat} {f : FuncId} {g : List (Nat × List V)} (h : allTrue (evFn P kw it d f [] (mem0 g) pc0) = true) (w : World)
    (hw : ∀ x ∈ g, x.1 < 4096 ∧ BlkR (cx0 fun _ => 0) w (x.1, 0) (.cells x.2 false false none)) :
    Calls P f #[] w fun e w' => e = .returned (.bool true) ∧ Below w.heap.size w w' := by
  obtain ⟨m, q, he⟩ := allTrue_out (fun _ => 0) h
  refine (evFn_ok hP hkw it d f [] (cx0 fun _ => 0) _ m w pc0 q _ #[] rfl (mem0_ok hw) pc0_ok glob0 VRs.nil he).2.mono fun e w' hR => ?_
  obtain ⟨c', z, rfl, s, hz, _⟩ := hR
  rw [VR.bool] at hz
  subst hz
  exact ⟨rfl, s.below mem0_wr⟩

/-! ### a closed call that is known -/

noncomputable def eqLV (a b : List V) : Bool := eqVV (.agg a) (.agg b)

/-- the variable is laid so -/
noncomputable def laidAt (m : Mem) (g : List (Nat × List V)) : Bool := allL (fun x => andB (Nat.blt x.1 4096) (onCells (m.tr.get x.1) (fun l _ _ _ => eqLV l x.2) false)) g

/-- the call returns true, where the variables are laid so -/
noncomputable def knTrue (g : List (Nat × List V)) (l : List V) : M V := (List.rec (motive := fun _ => M V) ((fun m p => selB (laidAt m g) (.ret ⟨.bool (.lit true), m, p⟩) (.fail "a variable"))) (fun _ _ _ => M.fail "arguments") (l))

noncomputable def kwTrue (f : FuncId) (g : List (Nat × List V)) (r : Kw) : Kw := fun i => selB (Nat.beq i f) (some fun _ => knTrue g) (r i)

theorem Step.of_below {c : Cx} {m : Mem} {w w' : World} (hm : MemR c m w) (hb : Below w.heap.size w w') : Step c m w c m w' :=
  ⟨⟨hm.nb, hm.nt, fun i b h => (hm.blk i b h).on (Cx.le.refl c) fun hl => hb.block _ (((hm.blk i b h).live hl).2.lt hl), hm.inj, hm.tok⟩, Cx.le.refl c, hb.os, hb.tape, hb.output, hb.size, fun b hb' _ => hb.block b hb', fun _ h => .inl h, fun _ h => .inl h⟩

/-- values without variables, and without places: they mean the same everywhere -/
noncomputable def fixed (l : List V) : Bool := (List.rec (motive := fun _ => Bool) (true) (fun v _ ih => (Bool.rec (motive := fun _ => Bool) (false) (ih) (onInt v (fun _ e => onN e (fun _ => true) false) false))) (l))

theorem fixed_ok {c c' : Cx} : ∀ {l : List V} {j : Nat} {v : V} {x : Value}, fixed l = true → l[j]? = some v → VR c v x → VR c' v x
  | [], j, v, x, _, h, _ => by simp at h
  | u :: l, j, v, x, hf, h, hv => by
    have hf : (Bool.rec false (fixed l) (onInt u (fun _ e => onN e (fun _ => true) false) false) : Bool) = true := hf
    cases hu : onInt u (fun _ e => onN e (fun _ => true) false) false with
    | false => rw [hu] at hf; exact absurd hf (by simp)
    | true =>
      rw [hu] at hf
      cases j with
      | succ j => exact fixed_ok hf (by simpa using h) hv
      | zero =>
        simp at h; subst h
        rcases onInt_cases u (fun _ e => onN e (fun _ => true) false) false with ⟨k, e, rfl, he⟩ | he <;> rw [he] at hu
        · cases e with
          | n z => rw [VR.int] at hv ⊢; exact hv
          | _ => exact absurd (show false = true from hu) (by simp)
        · simp at hu

theorem knTrue_ok {P : Program} {f : FuncId} (hf : Callable P f) {g : List (Nat × List V)} (hfx : allL (fun x => fixed x.2) g = true)
    (h : ∀ w : World, (∀ x ∈ g, x.1 < 4096 ∧ BlkR (cx0 fun _ => 0) w (x.1, 0) (.cells x.2 false false none)) → Calls P f #[] w fun e w' => e = .returned (.bool true) ∧ Below w.heap.size w w')
    {c : Cx} {m m' : Mem} {w : World} {p q : Pc} {v : V} {args : Array Value} (hm : MemR c m w) (hp : PcR c.ρ p) (hg : GlobR c) {l : List V} (hl : VRs c l args.toList) (hk : (knTrue g l).gives c.ρ m p v m' q) : CallOK P f args c m w m' v q := by
  cases l with
  | cons x r => exact (M.gives_fail (s := "arguments") hk).elim
  | nil =>
  rw [VRs.nil_iff] at hl
  have ha : args = #[] := by simpa using hl
  subst ha
  have hk : (selB (laidAt m g) (.ret ⟨.bool (.lit true), m, p⟩) (.fail "a variable") : T (Rs V)).out c.ρ = some ⟨v, m', q⟩ := hk
  obtain ⟨h1, h2⟩ := T.out_selB hk
  simp [T.out] at h2
  obtain ⟨rfl, rfl, rfl⟩ := h2
  refine ⟨hf, (h w fun x hx => ?_).mono fun e w' hR => ?_⟩
  · obtain ⟨h3, h4⟩ := andB_ok (allL_ok h1 x hx)
    rw [blt_iff] at h3
    refine ⟨h3, ?_⟩
    cases hb : m.tr.get x.1 with
    | none => rw [hb] at h4; exact absurd (show false = true from h4) (by simp)
    | some b =>
      rw [hb] at h4
      cases b with
      | cells l wr pl g' =>
        have e := eqVV_ok _ _ (show eqVV (.agg l) (.agg x.2) = true from h4)
        simp at e; subst e
        obtain ⟨_, h5⟩ := hm.blk _ _ hb
        rw [(hg.2 x.1 h3).2] at h5
        obtain ⟨cs, t, fr, g1, g2, g3, g4, g5⟩ := h5
        exact ⟨cs, t, fr, g1, fun j v hj => by
          obtain ⟨y, hy, hv⟩ := g2 j v hj
          exact ⟨y, hy, fixed_ok (allL_ok hfx x hx) hj hv⟩, fun h => by simp at h, fun h => by simp at h, trivial⟩
      | _ => exact absurd (show false = true from h4) (by simp)
  · obtain ⟨rfl, hb⟩ := hR
    exact ⟨c, _, rfl, Step.of_below hm hb, VR.lit, hp⟩

theorem kwTrue_ok {P : Program} {ρ : Nat → Int} {f : FuncId} (hf : Callable P f) {g : List (Nat × List V)} {r : Kw} (hr : KwOK P ρ r) (hfx : allL (fun x => fixed x.2) g = true)
    (h : ∀ w : World, (∀ x ∈ g, x.1 < 4096 ∧ BlkR (cx0 fun _ => 0) w (x.1, 0) (.cells x.2 false false none)) → Calls P f #[] w fun e w' => e = .returned (.bool true) ∧ Below w.heap.size w w') : KwOK P ρ (kwTrue f g r) := by
  intro i tr hs ev hev l c m m' w p q v args hc hm hp hg hl hk
  have hs : selB (Nat.beq i f) (some fun _ => knTrue g) (r i) = some tr := hs
  cases hi : Nat.beq i f with
  | true =>
    rw [hi] at hs
    have hs : (some fun _ => knTrue g) = some tr := hs
    simp at hs; subst hs
    rw [beq_iff] at hi; subst hi
    exact knTrue_ok hf hfx h hm hp hg hl hk
  | false =>
    rw [hi] at hs
    exact hr i tr hs ev hev l c m m' w p q v args hc hm hp hg hl hk

theorem callable {P : Program} (hP : Plain P) {f : FuncId} (h : (match P.funcs[f]? with | some fn => fn.body.isSome | none => false) = true) : Callable P f := by
  cases hf : P.funcs[f]? with
  | none => rw [hf] at h; simp at h
  | some fn =>
    rw [hf] at h
    have := hP.fns f fn hf
    simp [goodFn] at this
    exact ⟨fn, hf, by cases hb : fn.body <;> simp_all, by simpa using this.1⟩

end Go.Sy

/-
  What is proved here: a call that returns true and changes nothing that was there is what a law's row asks.
  Conditions: the parameters' types can be read.
-/
namespace Go.Sy
open Go.ChangeShapes Go.WideShapes Go.ChangeAt Go.RowKit

/-- what a law's call does -/
def LawEnd (W : World) (e : Ending) (w' : World) : Prop := e = .returned (.bool true) ∧ Below W.heap.size W w'

/-- the parameters' types can be read -/
def parsOk (P : Program) (fn : Func) : Bool := fn.params.toList.all fun t => P.readableRec t && decide (t < P.types.size)

section
variable {H : Type} {enc : TypeId × Value → H} {P : Program}

theorem trodAll_below (hl : laidOutB P = true) {W W' : World} (hb : Below W.heap.size W W') : ∀ {ts : List TypeId} {vs : List Value} {ds : List (DataW H)} {ps : List MemPlace}, (ts.all fun t => P.readableRec t && decide (t < P.types.size)) = true →
    DataW.TrodAll enc P W 0 (fun _ => true) true ts vs ds ps → DataW.TrodAll enc P W' 0 (fun b => decide (b < W.heap.size)) true ts vs ds ps
  | [], [], [], _, _, h => h
  | t :: ts, v :: vs, d :: ds, ps, ht, h => by
    have hlt := DataW.TrodAll.lt h
    obtain ⟨p, q, h1, h2, rfl⟩ := h
    simp only [List.all_cons, Bool.and_eq_true, decide_eq_true_eq] at ht
    exact ⟨p, q, Below.trod hl ht.1.1 ht.1.2 h1 hb (fun x hx => hlt x (List.mem_append_left _ hx)), trodAll_below hl hb ht.2 h2, rfl⟩
  | [], _ :: _, _, _, _, h => by cases h
  | [], [], _ :: _, _, _, h => by cases h
  | _ :: _, [], _, _, _, h => by cases h
  | _ :: _, _ :: _, [], _, _, h => by cases h

theorem trodAll_len {W : World} {base : Nat} {sp : Nat → Bool} {held : Bool} : ∀ {ts : List TypeId} {vs : List Value} {ds : List (DataW H)} {ps : List MemPlace}, DataW.TrodAll enc P W base sp held ts vs ds ps → ds.length = ts.length
  | [], [], [], _, _ => rfl
  | t :: ts, v :: vs, d :: ds, ps, h => by
    obtain ⟨p, q, _, h2, _⟩ := h
    simp [trodAll_len h2]
  | [], _ :: _, _, _, h => by cases h
  | [], [], _ :: _, _, h => by cases h
  | _ :: _, [], _, _, h => by cases h
  | _ :: _, _ :: _, [], _, h => by cases h

theorem law_post (hl : laidOutB P = true) {fn : Func} (hpar : parsOk P fn = true) {tb : TypeId} (hr : fn.resultTypes = #[tb]) (htb : P.underlying tb = some .bool) {s : ChangeSpec} (hv : s.vars = [])
    (hs : ∀ (ds : List (DataW H)), ds.length = fn.params.size → s.fn H ds = { results := [.lit (.bool true)], args := ds }) {W W' : World} {args : Array Value} {ds gs : List (DataW H)} {before : List MemPlace}
    (hW : DataW.Whole enc P fn.params.toList s.vars false W args.toList ds gs before) (hb : Below W.heap.size W W') : s.post enc P fn false true false false W args (.bool true) W' := by
  have hW' := hW
  obtain ⟨p, q, hA, hV, rfl, _, _⟩ := hW
  rw [hv] at hV
  obtain ⟨rfl, rfl⟩ := trodVars_none hV
  have hlen : ds.length = fn.params.size := by
    have := trodAll_len hA
    simpa using this
  have e := hs ds hlen
  refine ⟨ds, [], _, [], p, [], hW', ?_, ?_, ?_, hb.frame _, fun h => by cases h⟩
  · rw [List.append_nil, e, hr]
    exact trodAll_mk1 (shut_bool htb true)
  · rw [List.append_nil, e]
    exact trodAll_below hl hb hpar hA
  · rw [List.append_nil, e, hv]
    exact (rfl : ([] : List MemPlace) = [])
end

/-- a law's row, out of its calls -/
theorem law_lifted {C : Checked} {os : Os} {f : FuncId} {fn : Func} {s : ChangeSpec} {tb : TypeId} (own : ownKnob C.prog.godebug = none) (started : os.Started) (noInit : C.prog.inits.idxOf? f = none) (hfn : C.prog.funcs[f]? = some fn)
    (hl : laidOutB C.prog = true) (hpar : parsOk C.prog fn = true) (hr : fn.resultTypes = #[tb]) (htb : C.prog.underlying tb = some .bool) (hv : s.vars = [])
    {H : Type} {enc : TypeId × Value → H} (hs : ∀ (ds : List (DataW H)), ds.length = fn.params.size → s.fn H ds = { results := [.lit (.bool true)], args := ds })
    (witness : ∃ (w : World) (tape : Tape) (i : Input), w.os = os ∧ (w.forCall tape i).Shaped C.prog ∧ i.vars = [] ∧ Input.okWide C.prog (w.forCall tape i) .any w.heap.size f i ∧
      s.pre6 enc C.prog fn [] false (w.forCall tape i).memory i.args ∧ ({} : Assume).holds C.prog (lone (Frame.enter C.prog f i.args .normal) [] (w.forCall tape i)))
    (hcall : ∀ (W : World) (base : Nat) (args : Array Value) (ds : List (DataW H)) (ps : List MemPlace), (∀ (j : Nat) t v, fn.params[j]? = some t → args[j]? = some v → Value.okWide C.prog W .any base t v) →
      DataW.TrodAll enc C.prog W 0 (fun _ => true) true fn.params.toList args.toList ds ps → W.noneFrozen ps → Calls C.prog f args W (LawEnd W)) :
    ReturnsInHanded {} C os f .any (s.pre6 enc C.prog fn [] false) (s.post enc C.prog fn false true false false) := by
  refine returnsInHanded_of_change own started noInit hfn witness ?_
  intro W base args ds gs before hval hW _ _
  have hW' := hW
  obtain ⟨p, q, hA, hV, rfl, hz, _⟩ := hW
  refine (hcall W base args ds p hval hA (fun b off hp => hz b off (List.mem_append_left _ hp))).mono fun e W' he => ?_
  exact ⟨_, he.1, law_post hl hpar hr htb hv hs hW' he.2⟩

/-- the same, where variables are laid -/
theorem law_lifted_laid {C : Checked} {os : Os} {f : FuncId} {fn : Func} {s : ChangeSpec} {tb : TypeId} {laid : List (String × DataW Unit)} (own : ownKnob C.prog.godebug = none) (started : os.Started) (noInit : C.prog.inits.idxOf? f = none) (hfn : C.prog.funcs[f]? = some fn)
    (hl : laidOutB C.prog = true) (hpar : parsOk C.prog fn = true) (hr : fn.resultTypes = #[tb]) (htb : C.prog.underlying tb = some .bool) (hv : s.vars = [])
    {H : Type} {enc : TypeId × Value → H} (hs : ∀ (ds : List (DataW H)), ds.length = fn.params.size → s.fn H ds = { results := [.lit (.bool true)], args := ds })
    (witness : ∃ (w : World) (tape : Tape) (i : Input), w.os = os ∧ (w.forCall tape i).Shaped C.prog ∧ i.vars = [] ∧ Input.okWide C.prog (w.forCall tape i) .any w.heap.size f i ∧
      ((s.pre enc C.prog fn [] false (w.forCall tape i).memory i.args ∧ laidMetH C.prog laid (w.forCall tape i).memory) ∧ sizedMet enc C.prog fn (OpenSpec.ofChange s) false (w.forCall tape i).memory i.args) ∧
      ({} : Assume).holds C.prog (lone (Frame.enter C.prog f i.args .normal) [] (w.forCall tape i)))
    (hcall : ∀ (W : World) (base : Nat) (args : Array Value) (ds : List (DataW H)) (ps : List MemPlace), (∀ (j : Nat) t v, fn.params[j]? = some t → args[j]? = some v → Value.okWide C.prog W .any base t v) →
      DataW.TrodAll enc C.prog W 0 (fun _ => true) true fn.params.toList args.toList ds ps → W.noneFrozen ps → laidMetH C.prog laid W → Calls C.prog f args W (LawEnd W)) :
    ReturnsInHanded {} C os f .any (fun w args => (s.pre enc C.prog fn [] false w args ∧ laidMetH C.prog laid w) ∧ sizedMet enc C.prog fn (OpenSpec.ofChange s) false w args) (s.post enc C.prog fn false true false false) := by
  refine returnsInHanded_of_change_and (X := fun w _ => laidMetH C.prog laid w) (fun _ _ _ hh h => h.of_heap hh) own started noInit hfn witness ?_
  intro W base args ds gs before hval hW _ _ hL _
  have hW' := hW
  obtain ⟨p, q, hA, hV, rfl, hz, _⟩ := hW
  refine (hcall W base args ds p hval hA (fun b off hp => hz b off (List.mem_append_left _ hp)) hL).mono fun e W' he => ?_
  exact ⟨_, he.1, law_post hl hpar hr htb hv hs hW' he.2⟩

end Go.Sy

/-
  What is proved here: arguments of integers, bools, and structs of these, as the evaluator's values; a law's calls out of one run of the evaluator.
  Conditions: none.
-/
namespace Go.Sy
open Go.ChangeShapes Go.WideShapes Go.ChangeAt Go.RowKit

def valOf : Value → Int
  | .int _ n => n
  | .bool b => if b then 1 else 0
  | _ => 0

/-- a cell of that kind -/
def Lf.R : Lf → Value → Prop
  | .int k, v => ∃ n, v = .int k n ∧ (Lit.int k n).wf = true
  | .bool, v => ∃ b, v = .bool b

def LfsR : List Lf → List Value → Prop
  | [], vs => vs = []
  | l :: ls, vs => ∃ v r, vs = v :: r ∧ l.R v ∧ LfsR ls r

def flatFs (flat : TypeId → Option (List Lf)) (P : Program) : List Field → Nat → Nat → Option (List Lf)
  | [], off, n => if off = n then some [] else none
  | f :: fs, off, n => if f.offset = off then (flat f.type).bind fun l => if l.length = P.cellsOf f.type then (flatFs flat P fs (off + l.length) n).map (l ++ ·) else none else none

def flatAr (l : List Lf) : Nat → List Lf
  | 0 => []
  | n + 1 => l ++ flatAr l n

/-- the cells of a type -/
def flatT (P : Program) : Nat → TypeId → Option (List Lf)
  | 0, _ => none
  | d + 1, t =>
    match P.underlying t with
    | some (.int k) => some [.int k]
    | some .bool => some [.bool]
    | some (.struct fs) => flatFs (flatT P d) P fs.toList 0 (P.cellsOf t)
    | some (.array n e) => (flatT P d e).bind fun l => if l.length = P.cellsOf e ∧ n * l.length = P.cellsOf t then some (flatAr l n) else none
    | _ => none

theorem LfsR.length : ∀ {ls : List Lf} {vs : List Value}, LfsR ls vs → vs.length = ls.length
  | [], vs, h => by have h : vs = [] := h; subst h; rfl
  | l :: ls, vs, h => by
    obtain ⟨v, r, rfl, _, h2⟩ := h
    simp [h2.length]

theorem LfsR.append : ∀ {ls ls' : List Lf} {vs vs' : List Value}, LfsR ls vs → LfsR ls' vs' → LfsR (ls ++ ls') (vs ++ vs')
  | [], _, vs, _, h, h' => by have h : vs = [] := h; subst h; exact h'
  | l :: ls, _, vs, _, h, h' => by
    obtain ⟨v, r, rfl, h1, h2⟩ := h
    exact ⟨v, _, rfl, h1, h2.append h'⟩

section
variable {H : Type} {enc : TypeId × Value → H} {P : Program} {W : World} {base : Nat} {sp : Nat → Bool} {held : Bool}

/-- the cells that a datum tells -/
def dataV : Nat → DataW H → Option (List Value)
  | _ + 1, .lit (.int k n) => some [.int k n]
  | _ + 1, .lit (.bool b) => some [.bool b]
  | d + 1, .agg parts => (parts.mapM (dataV d)).map List.flatten
  | _, _ => none

theorem flatFs_ok {flat : TypeId → Option (List Lf)} {rd : TypeId → List Value → Option (DataW H × List MemPlace)} {dv : DataW H → Option (List Value)} (hf : ∀ t l cs x, flat t = some l → rd t cs = some x → LfsR l cs ∧ dv x.1 = some cs) : ∀ {fs : List Field} {off n : Nat} {sh : List Lf} {cs : List Value} {xs : List (DataW H × List MemPlace)},
    cs.length = n → off ≤ n → flatFs flat P fs off n = some sh → fs.mapM (fun f => rd f.type ((cs.drop f.offset).take (P.cellsOf f.type))) = some xs → LfsR sh (cs.drop off) ∧ ((xs.map (·.1)).mapM dv).map List.flatten = some (cs.drop off)
  | [], off, n, sh, cs, xs, hn, ho, h, hx => by
    unfold flatFs at h
    split at h
    · rename_i e
      simp at h; subst h
      have : cs.drop off = [] := List.drop_eq_nil_of_le (by omega)
      rw [this]
      simp at hx; subst hx
      exact ⟨rfl, rfl⟩
    · simp at h
  | f :: fs, off, n, sh, cs, xs, hn, ho, h, hm => by
    unfold flatFs at h
    split at h
    · rename_i e
      obtain ⟨l, h1, h2⟩ := Option.bind_eq_some_iff.1 h
      split at h2
      · rename_i hl
        obtain ⟨r, h3, rfl⟩ := Option.map_eq_some_iff.1 h2
        rw [List.mapM_cons] at hm
        cases hx : rd f.type ((cs.drop f.offset).take (P.cellsOf f.type)) with
        | none => simp [hx] at hm
        | some x =>
          rw [hx] at hm
          cases hy : fs.mapM (fun f => rd f.type ((cs.drop f.offset).take (P.cellsOf f.type))) with
          | none => simp [hy] at hm
          | some ys =>
            rw [hy] at hm
            have hm : some (x :: ys) = some xs := hm
            simp at hm; subst hm
            have h4 := hf _ _ _ _ h1 hx
            have hlen := h4.1.length
            rw [List.length_take, List.length_drop] at hlen
            have hle : off + l.length ≤ n := by omega
            obtain ⟨h5, h6⟩ := flatFs_ok hf hn hle h3 hy
            have e2 : cs.drop off = (cs.drop f.offset).take (P.cellsOf f.type) ++ cs.drop (off + l.length) := by
              rw [e, ← hl, ← List.drop_drop, List.take_append_drop]
            rw [e2]
            obtain ⟨css, h7, h8⟩ := Option.map_eq_some_iff.1 h6
            exact ⟨h4.1.append h5, by simp [List.mapM_cons, h4.2, h7, h8]⟩
      · simp at h2
    · simp at h

theorem flatAr_ok {l : List Lf} {e : TypeId} {rd : List Value → Option (DataW H × List MemPlace)} {dv : DataW H → Option (List Value)} (hf : ∀ cs x, rd cs = some x → LfsR l cs ∧ dv x.1 = some cs) (hl : l.length = P.cellsOf e) {cs : List Value} : ∀ {n i : Nat} {xs : List (DataW H × List MemPlace)},
    cs.length = (i + n) * l.length → ((List.range' i n).mapM fun j => rd ((cs.drop (j * P.cellsOf e)).take (P.cellsOf e))) = some xs → LfsR (flatAr l n) (cs.drop (i * l.length)) ∧ ((xs.map (·.1)).mapM dv).map List.flatten = some (cs.drop (i * l.length))
  | 0, i, xs, hn, h => by
    have : cs.drop (i * l.length) = [] := List.drop_eq_nil_of_le (by rw [hn]; simp)
    rw [this]
    simp at h; subst h
    exact ⟨rfl, rfl⟩
  | n + 1, i, xs, hn, h => by
    rw [List.range'_succ, List.mapM_cons] at h
    cases hx : rd ((cs.drop (i * P.cellsOf e)).take (P.cellsOf e)) with
    | none => simp [hx] at h
    | some x =>
      rw [hx] at h
      cases hy : (List.range' (i + 1) n).mapM (fun j => rd ((cs.drop (j * P.cellsOf e)).take (P.cellsOf e))) with
      | none => simp [hy] at h
      | some ys =>
        rw [hy] at h
        have h : some (x :: ys) = some xs := h
        simp at h; subst h
        have h1 := hf _ _ hx
        obtain ⟨h2, h3⟩ := flatAr_ok hf hl (n := n) (i := i + 1) (cs := cs) (by rw [hn]; congr 1; omega) hy
        have e2 : cs.drop (i * l.length) = (cs.drop (i * P.cellsOf e)).take (P.cellsOf e) ++ cs.drop ((i + 1) * l.length) := by
          rw [hl, Nat.succ_mul, ← List.drop_drop, List.take_append_drop]
        rw [e2]
        obtain ⟨css, h7, h8⟩ := Option.map_eq_some_iff.1 h3
        exact ⟨h1.1.append h2, by simp [List.mapM_cons, h1.2, h7, h8]⟩

theorem flatT_ok : ∀ (d : Nat) (n : Nat) (t : TypeId) (l : List Lf) (cs : List Value) (x : DataW H × List MemPlace), flatT P d t = some l → DataW.trod enc P W base sp held n t cs = some x → LfsR l cs ∧ dataV d x.1 = some cs
  | 0, _, _, _, _, _, h, _ => by simp [flatT] at h
  | d + 1, 0, _, _, _, _, _, h => by simp [DataW.trod] at h
  | d + 1, n + 1, t, l, cs, x, h, hx => by
    unfold flatT at h
    split at h
    · rename_i k hu
      simp at h; subst h
      obtain ⟨m, rfl, rfl, hw⟩ := DataW.trod_int hu hx
      exact ⟨⟨_, [], rfl, ⟨m, rfl, hw⟩, rfl⟩, rfl⟩
    · rename_i hu
      simp at h; subst h
      obtain ⟨b, rfl, rfl⟩ := DataW.trod_bool hu hx
      exact ⟨⟨_, [], rfl, ⟨b, rfl⟩, rfl⟩, rfl⟩
    · rename_i fs hu
      have hx' := hx
      simp only [DataW.trod, hu] at hx'
      split at hx'
      · rename_i hlen
        obtain ⟨xs, h1, rfl⟩ := Option.map_eq_some_iff.1 hx'
        have := flatFs_ok (rd := DataW.trod enc P W base sp held n) (dv := dataV d) (fun t l cs x h hx => flatT_ok d n t l cs x h hx) hlen (Nat.zero_le _) h h1
        simpa [dataV] using this
      · simp at hx'
    · rename_i m e hu
      have hx' := hx
      simp only [DataW.trod, hu] at hx'
      obtain ⟨l', h1, h2⟩ := Option.bind_eq_some_iff.1 h
      split at h2
      · rename_i hl
        simp at h2; subst h2
        split at hx'
        · rename_i hlen
          obtain ⟨xs, h3, rfl⟩ := Option.map_eq_some_iff.1 hx'
          rw [List.range_eq_range'] at h3
          have := flatAr_ok (P := P) (e := e) (l := l') (rd := DataW.trod enc P W base sp held n e) (dv := dataV d) (fun cs x hx => flatT_ok d n e l' cs x h1 hx) hl.1 (cs := cs) (n := m) (i := 0)
            (by rw [hlen, ← hl.2, Nat.zero_add]) h3
          simpa [dataV] using this
        · simp at hx'
      · simp at h2
    · simp at h

/-! ### the parameters -/

/-- the value that stands for a cell: the variable i -/
def Lf.v : Lf → Nat → V
  | .int k, i => .int k (.x i)
  | .bool, i => .bool (.eq (.x i) (.n 1))

noncomputable def Lf.rng : Lf → Int × Int
  | .int k => (kMin k, kMax k)
  | .bool => (0, 1)

def cellsV : List Lf → Nat → List V
  | [], _ => []
  | l :: ls, i => l.v i :: cellsV ls (i + 1)

theorem wf_rng {k : IntKind} {n : Int} (h : (Lit.int k n).wf = true) : kMin k ≤ n ∧ n ≤ kMax k := by
  cases k <;> simp [Lit.wf, IntKind.min, IntKind.max, IntKind.signed, IntKind.bits] at h <;> simp [kMin, kMax, IntKind.signed, limN] <;> omega

theorem Lf.v_ok {c : Cx} {l : Lf} {v : Value} {i : Nat} (h : l.R v) (hi : c.ρ i = valOf v) : VR c (l.v i) v := by
  cases l with
  | int k =>
    obtain ⟨n, rfl, hw⟩ := h
    have hi : c.ρ i = n := hi
    obtain ⟨h1, h2⟩ := wf_rng hw
    exact VR.int.2 ⟨by show _ = Value.int k (c.ρ i); rw [hi], by show _ ≤ c.ρ i; rw [hi]; exact h1, by show c.ρ i ≤ _; rw [hi]; exact h2⟩
  | bool =>
    obtain ⟨b, rfl⟩ := h
    refine VR.bool.2 ?_
    show Value.bool b = .bool (c.ρ i == 1)
    rw [hi]
    cases b <;> rfl

theorem Lf.rng_ok {l : Lf} {v : Value} (h : l.R v) : l.rng.1 ≤ valOf v ∧ valOf v ≤ l.rng.2 := by
  cases l with
  | int k => obtain ⟨n, rfl, hw⟩ := h; exact wf_rng hw
  | bool => obtain ⟨b, rfl⟩ := h; cases b <;> simp [Lf.rng, valOf]

theorem cellsV_ok {c : Cx} : ∀ {ls : List Lf} {vs : List Value} {i : Nat}, LfsR ls vs → (∀ j, j < vs.length → c.ρ (i + j) = valOf (vs.getD j undef)) → VRs c (cellsV ls i) vs
  | [], vs, i, h, _ => by have h : vs = [] := h; subst h; exact VRs.nil
  | l :: ls, vs, i, h, hv => by
    obtain ⟨v, r, rfl, h1, h2⟩ := h
    refine VRs.cons (Lf.v_ok h1 (by have := hv 0 (by simp); simpa using this)) (cellsV_ok h2 fun j hj => ?_)
    have := hv (j + 1) (by simpa using hj)
    rw [show i + 1 + j = i + (j + 1) by omega]
    simpa using this

/-- a parameter's shape -/
structure Sh where
  agg : Bool
  ls : List Lf

def shapeOf (P : Program) (t : TypeId) : Option Sh :=
  match P.underlying t with
  | some (.struct _) | some (.array _ _) => (flatT P 8 t).map fun l => ⟨true, l⟩
  | some (.int _) | some .bool => (flatT P 8 t).map fun l => ⟨false, l⟩
  | _ => none

def Sh.v (s : Sh) (i : Nat) : V := cond s.agg (.agg (cellsV s.ls i)) ((cellsV s.ls i).headD .bad)

def argsV : List Sh → Nat → List V
  | [], _ => []
  | s :: r, i => s.v i :: argsV r (i + s.ls.length)

noncomputable def argsRng : List Sh → List (Int × Int)
  | [] => []
  | s :: r => s.ls.map Lf.rng ++ argsRng r

theorem arg_open {r : Reach} {b0 : Nat} {t : TypeId} {v : Value} {d : DataW H} {ps : List MemPlace} {s : Sh} (hs : shapeOf P t = some s) (hval : Value.okWide P W r b0 t v) (hd : DataW.Trod enc P W base sp held t v d ps) :
    ∃ cs, LfsR s.ls cs ∧ ∀ (c : Cx) (i : Nat), VRs c (cellsV s.ls i) cs → VR c (s.v i) v := by
  obtain ⟨n, hn⟩ := hd
  unfold shapeOf at hs
  have agg : ∀ l, flatT P 8 t = some l → s = ⟨true, l⟩ → (∃ cs, v = .agg cs) → ∃ cs, LfsR s.ls cs ∧ ∀ (c : Cx) (i : Nat), VRs c (cellsV s.ls i) cs → VR c (s.v i) v := by
    rintro l hl rfl ⟨cs, rfl⟩
    exact ⟨cs.toList, (flatT_ok 8 n t l _ _ hl hn).1, fun c i h => VR.agg.2 ⟨cs, rfl, h⟩⟩
  have one : ∀ l, flatT P 8 t = some l → s = ⟨false, l⟩ → v.cells.toList = [v] → ∃ cs, LfsR s.ls cs ∧ ∀ (c : Cx) (i : Nat), VRs c (cellsV s.ls i) cs → VR c (s.v i) v := by
    rintro l hl rfl hv
    have h1 := (flatT_ok 8 n t l _ _ hl hn).1
    rw [hv] at h1
    refine ⟨[v], h1, fun c i h => ?_⟩
    cases l with
    | nil => have h1 : [v] = [] := h1; simp at h1
    | cons l ls =>
      obtain ⟨x, ys, e, h2, _⟩ := VRs.cons_iff.1 h
      simp at e
      rw [e.1]; exact h2
  split at hs
  · rename_i fs hu
    obtain ⟨l, h1, rfl⟩ := Option.map_eq_some_iff.1 hs
    simp only [Value.okWide, hu] at hval
    obtain ⟨cs, e, _⟩ := hval
    exact agg l h1 rfl ⟨cs, e⟩
  · rename_i m e hu
    obtain ⟨l, h1, rfl⟩ := Option.map_eq_some_iff.1 hs
    simp only [Value.okWide, hu] at hval
    obtain ⟨cs, e, _⟩ := hval
    exact agg l h1 rfl ⟨cs, e⟩
  · rename_i k hu
    obtain ⟨l, h1, rfl⟩ := Option.map_eq_some_iff.1 hs
    obtain ⟨m, rfl⟩ := okWide_int hu hval
    exact one l h1 rfl rfl
  · rename_i hu
    obtain ⟨l, h1, rfl⟩ := Option.map_eq_some_iff.1 hs
    obtain ⟨b, e, _⟩ := open_bool hu hval ⟨n, hn⟩
    subst e
    exact one l h1 rfl rfl
  · simp at hs

theorem args_open : ∀ {ts : List TypeId} {vs : List Value} {ds : List (DataW H)} {ps : List MemPlace} {shs : List Sh} {r : Reach} {b0 : Nat}, DataW.TrodAll enc P W base sp held ts vs ds ps →
    (∀ (j : Nat) t v, ts[j]? = some t → vs[j]? = some v → Value.okWide P W r b0 t v) → ts.mapM (shapeOf P) = some shs →
    ∃ cells : List Value, LfsR (shs.flatMap (·.ls)) cells ∧ ∀ (c : Cx) (i : Nat), (∀ j, j < cells.length → c.ρ (i + j) = valOf (cells.getD j undef)) → VRs c (argsV shs i) vs
  | [], [], [], _, shs, r, b0, h, _, hs => by
    simp at hs; subst hs
    exact ⟨[], rfl, fun c i _ => VRs.nil⟩
  | t :: ts, v :: vs, d :: ds, ps, shs, r, b0, h, hval, hs => by
    obtain ⟨p, q, h1, h2, rfl⟩ := h
    rw [List.mapM_cons] at hs
    cases ha : shapeOf P t with
    | none => simp [ha] at hs
    | some s =>
      rw [ha] at hs
      cases hb : ts.mapM (shapeOf P) with
      | none => simp [hb] at hs
      | some ss =>
        rw [hb] at hs
        have hs : some (s :: ss) = some shs := hs
        simp at hs; subst hs
        obtain ⟨cs, h3, h4⟩ := arg_open ha (hval 0 t v rfl rfl) h1
        obtain ⟨cells, h5, h6⟩ := args_open h2 (fun j t v ht hv => hval (j + 1) t v (by simpa using ht) (by simpa using hv)) hb
        have hlen := h3.length
        refine ⟨cs ++ cells, by simpa using h3.append h5, fun c i hi => VRs.cons (h4 c i (cellsV_ok h3 fun j hj => ?_)) (h6 c _ fun j hj => ?_)⟩
        · rw [hi j (by simp; omega)]
          congr 1
          simp [List.getD_eq_getElem?_getD, List.getElem?_append_left hj]
        · rw [show i + s.ls.length + j = i + (cs.length + j) by omega, hi (cs.length + j) (by simpa using hj)]
          congr 1
          simp [List.getD_eq_getElem?_getD, List.getElem?_append_right]
  | [], _ :: _, _, _, _, _, _, h, _, _ => by cases h
  | [], [], _ :: _, _, _, _, _, h, _, _ => by cases h
  | _ :: _, [], _, _, _, _, _, h, _, _ => by cases h
  | _ :: _, _ :: _, [], _, _, _, _, h, _, _ => by cases h

theorem rng_open : ∀ {ls : List Lf} {vs : List Value}, LfsR ls vs → ∀ i lo hi, (ls.map Lf.rng)[i]? = some (lo, hi) → lo ≤ valOf (vs.getD i undef) ∧ valOf (vs.getD i undef) ≤ hi
  | [], _, _, i, lo, hi, h => by simp at h
  | l :: ls, vs, h, i, lo, hi, hr => by
    obtain ⟨v, r, rfl, h1, h2⟩ := h
    cases i with
    | zero =>
      simp at hr
      have := Lf.rng_ok h1
      rw [hr] at this
      simpa using this
    | succ i =>
      have := rng_open h2 i lo hi (by simpa using hr)
      simpa using this

theorem argsRng_eq : ∀ (shs : List Sh), argsRng shs = (shs.flatMap (·.ls)).map Lf.rng
  | [] => rfl
  | s :: r => by simp [argsRng, argsRng_eq r]
end

/-- a law of plain arguments, out of one run of the evaluator -/
theorem law_calls {P : Program} (hP : Plain P) {kw : Kw} (hkw : ∀ ρ, KwOK P ρ kw) {it d : Nat} {f : FuncId} {fn : Func} {g : List (Nat × List V)} {shs : List Sh} (hsh : fn.params.toList.mapM (shapeOf P) = some shs)
    (h : allTrue (evFn P kw it d f (argsV shs 0) (mem0 g) ⟨[], argsRng shs⟩) = true)
    {H : Type} {enc : TypeId × Value → H} {W : World} {base : Nat} {args : Array Value} {ds : List (DataW H)} {ps : List MemPlace} (hval : ∀ (j : Nat) t v, fn.params[j]? = some t → args[j]? = some v → Value.okWide P W .any base t v)
    (hA : DataW.TrodAll enc P W 0 (fun _ => true) true fn.params.toList args.toList ds ps) (hw : ∀ ρ : Nat → Int, ∀ x ∈ g, x.1 < 4096 ∧ BlkR (cx0 ρ) W (x.1, 0) (.cells x.2 false false none)) :
    Calls P f args W (LawEnd W) := by
  obtain ⟨cells, h1, h2⟩ := args_open hA (fun j t v ht hv => hval j t v (by simpa using ht) (by simpa using hv)) hsh
  let ρ : Nat → Int := fun j => valOf (cells.getD j undef)
  have h3 : VRs (cx0 ρ) (argsV shs 0) args.toList := h2 (cx0 ρ) 0 fun j _ => by show valOf (cells.getD (0 + j) undef) = _; rw [Nat.zero_add]
  have hp : PcR ρ ⟨[], argsRng shs⟩ := ⟨fun c hc => by simp at hc, fun i lo hi hr => by
    have hr : (argsRng shs)[i]? = some (lo, hi) := hr
    rw [argsRng_eq] at hr
    exact rng_open h1 i lo hi hr⟩
  obtain ⟨m, q, he⟩ := allTrue_out ρ h
  refine (evFn_ok hP (hkw ρ) it d f _ (cx0 ρ) _ m W _ q _ args rfl (mem0_ok (hw ρ)) hp glob0 h3 he).2.mono fun e w' hR => ?_
  obtain ⟨c', z, rfl, s, hz, _⟩ := hR
  rw [VR.bool] at hz
  subst hz
  exact ⟨rfl, s.below mem0_wr⟩

end Go.Sy

/-
  What is proved here: what the laid variables hold, as the evaluator's memory.
  Conditions: the variables' types are made of integers and bools.
-/
namespace Go.Sy
open Go.ChangeShapes Go.WideShapes Go.ChangeAt Go.RowKit

/-- a known cell -/
def valV : Value → V
  | .int k n => .int k (.n n)
  | .bool b => .bool (.lit b)
  | _ => .bad

theorem valV_ok {c : Cx} : ∀ {ls : List Lf} {vs : List Value}, LfsR ls vs → ∀ (j : Nat) (v : V), (vs.map valV)[j]? = some v → ∃ x, vs[j]? = some x ∧ VR c v x
  | [], vs, h, j, v, hv => by have h : vs = [] := h; subst h; simp at hv
  | l :: ls, vs, h, j, v, hv => by
    obtain ⟨x, r, rfl, h1, h2⟩ := h
    cases j with
    | succ j => exact valV_ok h2 j v (by simpa using hv)
    | zero =>
      simp at hv; subst hv
      refine ⟨x, rfl, ?_⟩
      cases l with
      | int k =>
        obtain ⟨n, rfl, hw⟩ := h1
        obtain ⟨h3, h4⟩ := wf_rng hw
        exact VR.int.2 ⟨rfl, h3, h4⟩
      | bool => obtain ⟨b, rfl⟩ := h1; exact VR.bool.2 rfl

/-- the globals' cells, as the evaluator has them -/
def laidG (P : Program) : List (String × DataW Unit) → Option (List (Nat × List V))
  | [] => some []
  | (n, d) :: l => match P.globalNamed n with
    | some g => match (P.globals[g]?).map (·.type) with
      | some t => match flatT P 8 t, dataV 8 d with
        | some _, some vs => if g < 4096 then (laidG P l).map ((g, vs.map valV) :: ·) else none
        | _, _ => none
      | none => none
    | none => none

theorem laidG_ok {P : Program} {W : World} {ρ : Nat → Int} : ∀ {laid : List (String × DataW Unit)} {g : List (Nat × List V)} {ps : List MemPlace}, laidG P laid = some g → DataW.LaidVars P W laid ps →
    ∀ x ∈ g, x.1 < 4096 ∧ BlkR (cx0 ρ) W (x.1, 0) (.cells x.2 false false none)
  | [], g, ps, hg, _, x, hx => by
    simp [laidG] at hg; subst hg; simp at hx
  | (n, d) :: l, g, ps, hg, h, x, hx => by
    obtain ⟨g0, t0, cs0, f0, p0, q0, hg0, ht0, hv0, hd0, hrest, _⟩ := h
    unfold laidG at hg
    rw [hg0] at hg
    simp only [ht0] at hg
    cases hf : flatT P 8 t0 with
    | none => rw [hf] at hg; simp at hg
    | some ls =>
      cases hd : dataV 8 d with
      | none => rw [hf, hd] at hg; simp at hg
      | some vs =>
        rw [hf, hd] at hg
        simp only at hg
        split at hg
        · rename_i hlt
          obtain ⟨g', hg', rfl⟩ := Option.map_eq_some_iff.1 hg
          cases hx with
          | tail _ hx => exact laidG_ok hg' hrest x hx
          | head =>
            refine ⟨hlt, ?_⟩
            obtain ⟨h1, h2⟩ := flatT_ok 8 _ t0 ls _ _ hf hd0
            rw [hd] at h2
            simp at h2
            have hb : ∃ t fr, W.heap[g0]? = some (.cells cs0 t fr) := by
              unfold World.var? at hv0
              rw [hg0] at hv0
              simp only [Option.bind_some] at hv0
              cases hh : W.heap[g0]? with
              | none => rw [hh] at hv0; simp at hv0
              | some o =>
                rw [hh] at hv0
                cases o <;> simp at hv0
                subst hv0
                exact ⟨_, _, rfl⟩
            obtain ⟨t, fr, hb⟩ := hb
            subst h2
            exact ⟨cs0, t, fr, hb, fun j v hj => by
              obtain ⟨y, hy, hv⟩ := valV_ok (c := cx0 ρ) h1 j v hj
              exact ⟨y, by rw [Nat.zero_add]; simpa using hy, hv⟩, fun h => by simp at h, fun h => by simp at h, trivial⟩
        · simp at hg

theorem laidMet_ok {P : Program} {W : World} {ρ : Nat → Int} {laid : List (String × DataW Unit)} {g : List (Nat × List V)} (hg : laidG P laid = some g) (hp : (laid.all fun x => x.2.handleName?.isNone) = true) (h : laidMetH P laid W) :
    ∀ x ∈ g, x.1 < 4096 ∧ BlkR (cx0 ρ) W (x.1, 0) (.cells x.2 false false none) := by
  rw [MakeChecks.laidMetH_plain _ _ _ hp] at h
  obtain ⟨ps, h1, _⟩ := h
  exact laidG_ok hg h1

end Go.Sy

/-
  What is proved here: a state of the evaluator, with some of its cells and slots made general, stands for every state that fits.
  Conditions: none.
-/
namespace Go.Sy
open Go.RowKit (Below)

/-- what a general place holds -/
inductive G where
  | ofE (a : E)
  | ofB (c : B)
  deriving Inhabited

noncomputable def G.den (ρ : Nat → Int) : G → Int
  | .ofE a => a.den ρ
  | .ofB c => if c.den ρ then 1 else 0

/-- the variables from 'base' on, anew -/
noncomputable def sub (base : Nat) (s : List G) (ρ : Nat → Int) : Nat → Int := fun i =>
  if i < base then ρ i else match s[i - base]? with
    | some g => g.den ρ
    | none => ρ i

/-! ### values that mean the same before and after -/

/-- none of the variables base, .., base + k - 1 -/
noncomputable def E.old (base k : Nat) (e : E) : Bool := (E.rec (motive := fun _ => Bool) (fun _ => true) (fun i => orB (Nat.blt i base) (Nat.ble (Nat.add base k) i)) (fun _ _ _ _ ia ib => andB ia ib) (fun _ _ ia => ia) (fun _ _ _ _ _ ie => andB (Nat.ble (Nat.add base k) 1000) ie) (fun _ _ _ _ ie => ie) (e))
noncomputable def B.old (base k : Nat) (c : B) : Bool := (B.rec (motive := fun _ => Bool) (fun _ => true) (fun a b => andB (a.old base k) (b.old base k)) (fun a b => andB (a.old base k) (b.old base k)) (fun _ ih => ih) (c))

noncomputable def oldEs (base k : Nat) (l : List E) : Bool := allL (E.old base k) l
noncomputable def oldCp (nt : Nat) (c : Cp) : Bool := (Cp.rec (motive := fun _ => Bool) (fun _ => true) (fun i _ => Nat.blt i nt) (c))

noncomputable def oldV (base k nb nt : Nat) (v : V) : Bool := V.rec (motive_1 := fun _ => Bool) (motive_2 := fun _ => Bool)
  (fun b => b.old base k) (fun _ e => e.old base k) (fun l => oldEs base k l) true (fun i _ => Nat.blt i nb) true (fun i _ _ c => andB (Nat.blt i nb) (oldCp nt c)) true (fun i => Nat.blt i nb)
  (fun _ _ _ ia ib => andB ia ib) true (fun _ _ ih => ih) true (fun _ ih => ih) (fun _ ih => ih) true (fun i _ n => andB (Nat.blt i nb) (n.old base k)) (fun i _ e _ => andB (Nat.blt i nb) (e.old base k)) (fun _ _ => false) true (fun _ _ ih il => andB ih il) v

section old
variable {base nb nt : Nat} {s : List G} {ρ : Nat → Int}

theorem sub_old {i : Nat} (h : orB (Nat.blt i base) (Nat.ble (Nat.add base s.length) i) = true) : sub base s ρ i = ρ i := by
  unfold sub
  rcases orB_ok h with h1 | h1
  · rw [blt_iff] at h1; rw [if_pos h1]
  · rw [ble_iff] at h1
    have h1 : base + s.length ≤ i := h1
    rw [if_neg (by omega), List.getElem?_eq_none (by omega)]

theorem sub_row (h : Nat.ble (Nat.add base s.length) 1000 = true) {a r j : Nat} : sub base s ρ (rowVar a r j) = ρ (rowVar a r j) := by
  rw [ble_iff] at h
  have h : base + s.length ≤ 1000 := h
  unfold sub rowVar
  rw [if_neg (by omega), List.getElem?_eq_none (by omega)]

theorem E.old_den : ∀ {e : E}, e.old base s.length = true → e.den (sub base s ρ) = e.den ρ
  | .n _, _ => rfl
  | .x i, h => sub_old h
  | .bin op k a b, h => by
    obtain ⟨h1, h2⟩ := andB_ok (show andB (a.old base s.length) (b.old base s.length) = true from h)
    show binZ op k (a.den _) (b.den _) = binZ op k (a.den ρ) (b.den ρ)
    rw [E.old_den h1, E.old_den h2]
  | .cv k a, h => by
    show k.wrap (a.den _) = k.wrap (a.den ρ)
    rw [E.old_den (show a.old base s.length = true from h)]
  | .rd a r lo hi e, h => by
    obtain ⟨h1, h2⟩ := andB_ok (show andB (Nat.ble (Nat.add base s.length) 1000) (e.old base s.length) = true from h)
    show clampZ lo hi (sub base s ρ (rowVar a r (e.den _).toNat)) = clampZ lo hi (ρ (rowVar a r (e.den ρ).toNat))
    rw [E.old_den h2, sub_row h1]
  | .tab l lo hi e, h => by
    show clampZ lo hi (nthZ l (e.den _).toNat) = clampZ lo hi (nthZ l (e.den ρ).toNat)
    rw [E.old_den (show e.old base s.length = true from h)]

theorem B.old_den : ∀ {c : B}, c.old base s.length = true → c.den (sub base s ρ) = c.den ρ
  | .lit _, _ => rfl
  | .not a, h => by
    show (!a.den _) = !a.den ρ
    rw [B.old_den (show a.old base s.length = true from h)]
  | .lt a b, h => by
    obtain ⟨h1, h2⟩ := andB_ok (show andB (a.old base s.length) (b.old base s.length) = true from h)
    show decide (a.den _ < b.den _) = decide (a.den ρ < b.den ρ)
    rw [E.old_den h1, E.old_den h2]
  | .eq a b, h => by
    obtain ⟨h1, h2⟩ := andB_ok (show andB (a.old base s.length) (b.old base s.length) = true from h)
    show (a.den _ == b.den _) = (a.den ρ == b.den ρ)
    rw [E.old_den h1, E.old_den h2]

/-- what the names stand for, the variables anew -/
noncomputable def Cx.anew (c : Cx) (base : Nat) (s : List G) (nb nt : Nat) : Cx := ⟨c.β, c.γ, sub base s c.ρ, nb, nt, fun i => c.has i ∧ i < nb, fun _ h => h.2⟩

variable {c : Cx}

theorem oldEs_den {l : List E} (h : oldEs base s.length l = true) : l.map (E.den (sub base s ρ)) = l.map (E.den ρ) :=
  List.map_congr_left fun e he => E.old_den (allL_ok h e he)

theorem oldCp_R {p : Cp} {k : Nat} (h : oldCp nt p = true) (hp : p.R c k) : p.R (c.anew base s nb nt) k := by
  cases p with
  | n => exact hp
  | t i j => exact ⟨(blt_iff _ _).1 h, hp.2⟩

mutual
theorem oldV_R : ∀ {v : V} {x : Value}, oldV base s.length nb nt v = true → VR c v x → VR (c.anew base s nb nt) v x
  | .bool b, x, h, hx => by rw [VR.bool] at *; rw [hx]; exact congrArg _ (B.old_den h).symm
  | .int k e, x, h, hx => by
    rw [VR.int] at *
    have e1 : e.den (c.anew base s nb nt).ρ = e.den c.ρ := E.old_den h
    rw [e1]; exact hx
  | .str l, x, h, hx => by
    rw [VR.str] at *
    obtain ⟨bs, e, hb⟩ := hx
    refine ⟨bs, e, ?_⟩
    unfold BR at *
    rw [← hb]; exact oldEs_den h
  | .nilPtr, x, _, hx => by unfold VR at *; exact hx
  | .ptr i o, x, h, hx => by rw [VR.ptr] at *; exact ⟨⟨hx.1, (blt_iff _ _).1 h⟩, hx.2⟩
  | .nilSlice, x, _, hx => by unfold VR at *; exact hx
  | .slice i o len cp, x, h, hx => by
    obtain ⟨h1, h2⟩ := andB_ok (show andB (Nat.blt i nb) (oldCp nt cp) = true from h)
    rw [VR.slice] at *
    obtain ⟨h0, cap, h3, h4⟩ := hx
    exact ⟨⟨h0, (blt_iff _ _).1 h1⟩, cap, oldCp_R h2 h3, h4⟩
  | .nilMap, x, _, hx => by unfold VR at *; exact hx
  | .map i, x, h, hx => by rw [VR.map] at *; exact ⟨⟨hx.1, (blt_iff _ _).1 h⟩, hx.2⟩
  | .func fn a b, x, h, hx => by
    obtain ⟨h1, h2⟩ := andB_ok (show andB (oldV base s.length nb nt (.agg a)) (oldV base s.length nb nt (.agg b)) = true from h)
    rw [VR.func] at *
    obtain ⟨as, bs, e, g1, g2⟩ := hx
    exact ⟨as, bs, e, oldVs_R h1 g1, oldVs_R h2 g2⟩
  | .nilFunc, x, _, hx => by unfold VR at *; exact hx
  | .iface t v, x, h, hx => by
    rw [VR.iface] at *
    obtain ⟨y, e, g1⟩ := hx
    exact ⟨y, e, oldV_R (show oldV base s.length nb nt v = true from h) g1⟩
  | .nilIface, x, _, hx => by unfold VR at *; exact hx
  | .agg l, x, h, hx => by
    rw [VR.agg] at *
    obtain ⟨xs, e, g1⟩ := hx
    exact ⟨xs, e, oldVs_R h g1⟩
  | .tuple l, x, h, hx => by
    rw [VR.tuple] at *
    obtain ⟨xs, e, g1⟩ := hx
    exact ⟨xs, e, oldVs_R (show oldV base s.length nb nt (.agg l) = true from h) g1⟩
  | .bad, x, _, _ => VR.bad
  | .eslice _ _, x, h, _ => (Bool.false_ne_true h).elim
  | .sarr i sz n, x, h, hx => by
    obtain ⟨h1, h2⟩ := andB_ok (show andB (Nat.blt i nb) (n.old base s.length) = true from h)
    rw [VR.sarr] at *
    obtain ⟨h0, k, cap, g1, g2⟩ := hx
    exact ⟨⟨h0, (blt_iff _ _).1 h1⟩, k, cap, by rw [← g1]; exact E.old_den h2, g2⟩
  | .sptr i sz e f, x, h, hx => by
    obtain ⟨h1, h2⟩ := andB_ok (show andB (Nat.blt i nb) (e.old base s.length) = true from h)
    rw [VR.sptr] at *
    obtain ⟨h0, j, g1, g2⟩ := hx
    exact ⟨⟨h0, (blt_iff _ _).1 h1⟩, j, by rw [← g1]; exact E.old_den h2, g2⟩
theorem oldVs_R : ∀ {l : List V} {xs : List Value}, oldV base s.length nb nt (.agg l) = true → VRs c l xs → VRs (c.anew base s nb nt) l xs
  | [], xs, _, hx => by rw [VRs.nil_iff] at *; exact hx
  | v :: l, xs, h, hx => by
    obtain ⟨h1, h2⟩ := andB_ok (show andB (oldV base s.length nb nt v) (oldV base s.length nb nt (.agg l)) = true from h)
    obtain ⟨x, ys, rfl, g1, g2⟩ := VRs.cons_iff.1 hx
    exact VRs.cons (oldV_R h1 g1) (oldVs_R h2 g2)
end
end old

/-! ### patterns -/

/-- a general place of the same kind -/
noncomputable def genV (v : V) (i : Nat) : V := (V.rec (motive_1 := fun _ => V) (motive_2 := fun _ => Unit) (fun _ => .bool (.eq (.x i) (.n 1))) (fun k _ => .int k (.x i)) (fun _ => .bad) (.bad) (fun _ _ => .bad) (.bad) (fun _ _ _ _ => .bad) (.bad) (fun _ => .bad) (fun _ _ _ _ _ => .bad) (.bad) (fun _ _ _ => .bad) (.bad) (fun _ _ => .bad) (fun _ _ => .bad) (.bad) (fun _ _ _ => .bad) (fun _ _ _ _ => .bad) (fun _ _ => .bad) Unit.unit (fun _ _ _ _ => Unit.unit) (v))

/-- what stands there -/
noncomputable def gOf (v u : V) : Option G := (V.rec (motive_1 := fun _ => Option G) (motive_2 := fun _ => Unit) (fun _ => onBool u (fun b => some (.ofB b)) none) (fun k _ => onInt u (fun k' e => selB (Nat.beq (kindNo k) (kindNo k')) (some (.ofE e)) none) none) (fun _ => none) (none) (fun _ _ => none) (none) (fun _ _ _ _ => none) (none) (fun _ => none) (fun _ _ _ _ _ => none) (none) (fun _ _ _ => none) (none) (fun _ _ => none) (fun _ _ => none) (none) (fun _ _ _ => none) (fun _ _ _ _ => none) (fun _ _ => none) Unit.unit (fun _ _ _ _ => Unit.unit) (v))

/-- a row of values, some of them general: from variable i on -/
noncomputable def genL (l : List V) : List Bool → Nat → List V := (List.rec (motive := fun _ => List Bool → Nat → List V) (fun _ _ => []) (fun v _ ih => fun ms i =>
  (List.rec (motive := fun _ => List V) (v :: ih [] i) (fun b r _ => (Bool.rec (motive := fun _ => List V) (v :: ih r i) (genV v i :: ih r (Nat.succ i)) (b))) (ms))) (l))

noncomputable def consO (g : Option G) (l : Option (List G)) : Option (List G) := (Option.rec (motive := fun _ => Option (List G)) (none) (fun g => (Option.rec (motive := fun _ => Option (List G)) (none) (fun l => some (g :: l)) (l))) (g))

/-- the row 'l', and the row that is to fit -/
noncomputable def fitL (ok : V → Bool) (l : List V) : List Bool → List V → Option (List G) := (List.rec (motive := fun _ => List Bool → List V → Option (List G)) (fun _ us => (List.rec (motive := fun _ => Option (List G)) (some []) (fun _ _ _ => none) (us))) (fun v _ ih => fun ms us => (List.rec (motive := fun _ => Option (List G)) (none) (fun u us _ => (List.rec (motive := fun _ => Option (List G)) (selB (andB (eqVV v u) (ok v)) (ih [] us) none) (fun b r _ => (Bool.rec (motive := fun _ => Option (List G)) (selB (andB (eqVV v u) (ok v)) (ih r us) none) (consO (gOf v u) (ih r us)) (b))) (ms))) (us))) (l))

/-- how many general ones -/
noncomputable def cntL (ms : List Bool) : List V → Nat := (List.rec (motive := fun _ => List V → Nat) (fun _ => 0) (fun b _ ih => fun l => (List.rec (motive := fun _ => Nat) (0) (fun _ r _ => (Bool.rec (motive := fun _ => Nat) (ih r) (Nat.succ (ih r)) (b))) (l))) (ms))

theorem gOf_ok {c : Cx} {base nb nt : Nat} {s : List G} {v u : V} {g : G} {x : Value} {i : Nat} (h : gOf v u = some g) (hu : VR c u x) (hi : s[i]? = some g) : VR (c.anew base s nb nt) (genV v (base + i)) x := by
  have hden : (c.anew base s nb nt).ρ (base + i) = g.den c.ρ := by
    show sub base s c.ρ (base + i) = _
    unfold sub
    rw [if_neg (by omega), show base + i - base = i by omega, hi]
  cases v with
  | int k e0 =>
    have h : onInt u (fun k' e => selB (Nat.beq (kindNo k) (kindNo k')) (some (G.ofE e)) none) none = some g := h
    rcases onInt_cases u (fun k' e => selB (Nat.beq (kindNo k) (kindNo k')) (some (G.ofE e)) none) none with ⟨k', e, rfl, he⟩ | he <;> rw [he] at h
    · cases hk : Nat.beq (kindNo k) (kindNo k') with
      | false => rw [hk] at h; exact absurd h (by simp [selB])
      | true =>
        rw [hk] at h
        have h : some (G.ofE e) = some g := h
        simp at h; subst h
        have := kindNo_inj hk
        subst this
        rw [VR.int] at hu
        show VR _ (V.int k (.x (base + i))) x
        rw [VR.int]
        show x = .int k ((c.anew base s nb nt).ρ (base + i)) ∧ kMin k ≤ (c.anew base s nb nt).ρ (base + i) ∧ (c.anew base s nb nt).ρ (base + i) ≤ kMax k
        rw [hden]; exact hu
    · simp at h
  | bool b0 =>
    have h : onBool u (fun b => some (G.ofB b)) none = some g := h
    rcases onBool_cases u (fun b => some (G.ofB b)) none with ⟨b, rfl, he⟩ | he <;> rw [he] at h
    · simp at h; subst h
      rw [VR.bool] at hu
      show VR _ (V.bool (.eq (.x (base + i)) (.n 1))) x
      rw [VR.bool]
      show x = .bool ((c.anew base s nb nt).ρ (base + i) == 1)
      rw [hden, hu]
      unfold G.den
      cases hb : b.den c.ρ <;> simp [hb]
    · simp at h
  | _ => exact absurd h (by simp [gOf])

theorem consO_ok {g : Option G} {l : Option (List G)} {r : List G} (h : consO g l = some r) : ∃ a b, g = some a ∧ l = some b ∧ r = a :: b := by
  cases g with
  | none => exact absurd h (by simp [consO])
  | some a => cases l with
    | none => exact absurd h (by simp [consO])
    | some b =>
      have h : some (a :: b) = some r := h
      simp at h
      exact ⟨a, b, rfl, rfl, h.symm⟩

theorem selB_some {α : Type} {c : Bool} {x : Option α} {a : α} (h : selB c x none = some a) : c = true ∧ x = some a := by
  cases c with
  | true => exact ⟨rfl, h⟩
  | false => exact absurd h (by simp [selB])

/-- what fits stands for the same -/
theorem fitL_ok {c : Cx} {base nb nt : Nat} {s : List G} : ∀ {l : List V} {ms : List Bool} {us : List V} {t : List G} {i : Nat}, fitL (oldV base s.length nb nt) l ms us = some t → (∀ j, j < t.length → s[i + j]? = t[j]?) →
    us.length = l.length ∧ (genL l ms (base + i)).length = l.length ∧ ∀ (j : Nat) (v u : V) (x : Value), (genL l ms (base + i))[j]? = some v → us[j]? = some u → VR c u x → VR (c.anew base s nb nt) v x
  | [], ms, us, t, i, h, _ => by
    cases us with
    | nil => exact ⟨rfl, rfl, fun j v u x hv => by simp [genL] at hv⟩
    | cons u us => exact absurd h (by simp [fitL])
  | v :: l, ms, us, t, i, h, hs => by
    cases us with
    | nil => exact absurd h (by simp [fitL])
    | cons u us =>
      have plain : ∀ r, selB (andB (eqVV v u) (oldV base s.length nb nt v)) (fitL (oldV base s.length nb nt) l r us) none = some t →
          (u :: us).length = (v :: l).length ∧ (v :: genL l r (base + i)).length = (v :: l).length ∧ ∀ (j : Nat) (v' u' : V) (x : Value), (v :: genL l r (base + i))[j]? = some v' → (u :: us)[j]? = some u' → VR c u' x → VR (c.anew base s nb nt) v' x := by
        intro r h
        obtain ⟨h1, h2⟩ := selB_some h
        obtain ⟨h3, h4⟩ := andB_ok h1
        have := eqVV_ok _ _ h3
        subst this
        obtain ⟨g1, g2, g3⟩ := fitL_ok h2 hs
        refine ⟨by simp [g1], by simp [g2], fun j v' u' x hv hu hx => ?_⟩
        cases j with
        | zero => simp at hv hu; subst hv; subst hu; exact oldV_R h4 hx
        | succ j => exact g3 j v' u' x (by simpa using hv) (by simpa using hu) hx
      cases ms with
      | nil => exact plain [] h
      | cons b r =>
        cases b with
        | false => exact plain r h
        | true =>
          obtain ⟨g, t', h1, h2, rfl⟩ := consO_ok (show consO (gOf v u) (fitL (oldV base s.length nb nt) l r us) = some t from h)
          have h0 : s[i]? = some g := by have := hs 0 (by simp); simpa using this
          obtain ⟨g1, g2, g3⟩ := fitL_ok (i := i + 1) h2 fun j hj => by
            have := hs (j + 1) (by simpa using hj)
            rw [show i + 1 + j = i + (j + 1) by omega]; simpa using this
          have e : genL (v :: l) (true :: r) (base + i) = genV v (base + i) :: genL l r (base + (i + 1)) := rfl
          rw [e]
          refine ⟨by simp [g1], by simp [g2], fun j v' u' x hv hu hx => ?_⟩
          cases j with
          | zero => simp at hv hu; subst hv; subst hu; exact gOf_ok h1 hx h0
          | succ j => exact g3 j v' u' x (by simpa using hv) (by simpa using hu) hx

end Go.Sy

/-
  What is proved here: a pattern of a state, and what fits it.
  Conditions: none.
-/
namespace Go.Sy
open Go.RowKit (Below)

/-- which slots are kept as they are, which are general, which blocks are kept, and which of their cells are general -/
structure Pt where
  base : Nat
  keep : List Nat
  gsl : List Nat
  blks : List (Nat × List Bool)

noncomputable def memN (l : List Nat) (j : Nat) : Bool := (List.rec (motive := fun _ => Bool) (false) (fun t _ ih => (Bool.rec (motive := fun _ => Bool) (ih) (true) (Nat.beq j t))) (l))

noncomputable def genS (l : List Nat) (env : Env) : Nat → Nat → V := (List.rec (motive := fun _ => Nat → Nat → V) (fun _ _ => .bad) (fun t _ ih => fun i j => (Bool.rec (motive := fun _ => V) (ih (Nat.succ i) j) (genV (env t) i) (Nat.beq j t))) (l))

noncomputable def genEnv (pt : Pt) (env : Env) : Env := fun j => selB (memN pt.keep j) (env j) (genS pt.gsl env pt.base j)

noncomputable def cntB (m : Mem) (b : Nat × List Bool) : Nat := onCells (m.tr.get b.1) (fun l _ _ _ => cntL b.2 l) 0

/-- one block of the pattern -/
noncomputable def gen1 (b : Option Blk) (ms : List Bool) (i : Nat) : Option Blk := onCells b (fun l wr pl g => some (.cells (genL l ms i) wr pl g)) b

noncomputable def genTr (bs : List (Nat × List Bool)) (m : Mem) : Nat → Tr Blk := (List.rec (motive := fun _ => Nat → Tr Blk) (fun _ => .nil) (fun b _ ih => fun i =>
  (Option.rec (motive := fun _ => Tr Blk) (ih (Nat.add i (cntB m b))) (fun k => (ih (Nat.add i (cntB m b))).set b.1 k) (gen1 (m.tr.get b.1) b.2 i))) (bs))

noncomputable def genMem (pt : Pt) (m : Mem) : Mem := ⟨genTr pt.blks m (Nat.add pt.base (lenL pt.gsl)), m.nb, .nil, m.nt⟩

noncomputable def cntBs (bs : List (Nat × List Bool)) (m : Mem) : Nat := (List.rec (motive := fun _ => Nat) (0) (fun b _ ih => Nat.add (cntB m b) ih) (bs))
noncomputable def Pt.k (pt : Pt) (m : Mem) : Nat := Nat.add (lenL pt.gsl) (cntBs pt.blks m)

noncomputable def fitS (l : List Nat) (env env' : Env) : Option (List G) := (List.rec (motive := fun _ => Option (List G)) (some []) (fun t _ ih => consO (gOf (env t) (env' t)) ih) (l))

noncomputable def eqG (a b : Option (Nat × Nat)) : Bool := (Option.rec (motive := fun _ => Bool) ((Option.rec (motive := fun _ => Bool) (true) (fun _ => false) (b))) (fun x => (Option.rec (motive := fun _ => Bool) (false) (fun y => andB (Nat.beq x.1 y.1) (Nat.beq x.2 y.2)) (b))) (a))
noncomputable def oldG (nt : Nat) (a : Option (Nat × Nat)) : Bool := (Option.rec (motive := fun _ => Bool) (true) (fun x => Nat.blt x.1 nt) (a))

noncomputable def catO (a b : Option (List G)) : Option (List G) := (Option.rec (motive := fun _ => Option (List G)) (none) (fun a => (Option.rec (motive := fun _ => Option (List G)) (none) (fun b => some (a ++ b)) (b))) (a))

noncomputable def eqLf (a b : Lf) : Bool := (Lf.rec (motive := fun _ => Bool) (fun k => (Lf.rec (motive := fun _ => Bool) (fun k' => Nat.beq (kindNo k) (kindNo k')) (false) (b))) ((Lf.rec (motive := fun _ => Bool) (fun _ => false) (true) (b))) (a))
noncomputable def eqLfs (a : List Lf) : List Lf → Bool := (List.rec (motive := fun _ => List Lf → Bool) (fun b => (List.rec (motive := fun _ => Bool) (true) (fun _ _ _ => false) (b))) (fun x _ ih => fun b => (List.rec (motive := fun _ => Bool) (false) (fun y r _ => andB (eqLf x y) (ih r)) (b))) (a))

noncomputable def fit1 (ok : V → Bool) (nt : Nat) (ms : List Bool) (b b' : Option Blk) : Option (List G) :=
  onCells b (fun l wr pl g => onCells b' (fun l' wr' pl' g' => selB (andB (eqB wr wr') (andB (eqB pl pl') (andB (eqG g g') (oldG nt g)))) (fitL ok l ms l') none) none)
    (onRow b (fun a ls n => onRow b' (fun a' ls' n' => selB (andB (Nat.beq a a') (andB (eqLfs ls ls') (andB (eqE n n') (ok (.int .i64 n))))) (some []) none) none) none)

noncomputable def fitBlk (ok : V → Bool) (bs : List (Nat × List Bool)) (m m' : Mem) : Option (List G) := (List.rec (motive := fun _ => Option (List G)) (some []) (fun b _ ih => selB (Nat.blt b.1 m.nb) (catO (fit1 ok m.nt b.2 (m.tr.get b.1) (m'.tr.get b.1)) ih) none) (bs))

noncomputable def fitSt (pt : Pt) (env : Env) (m : Mem) (env' : Env) (m' : Mem) : Option (List G) :=
  selB (andB (andB (Nat.ble 4096 m.nb) (Nat.ble (Nat.add pt.base (pt.k m)) 1000)) (allL (fun j => andB (eqVV (env j) (env' j)) (oldV pt.base (pt.k m) m.nb m.nt (env j))) pt.keep))
    ((Option.rec (motive := fun _ => Option (List G)) (none) (fun s => selB (Nat.beq (lenL s) (pt.k m)) (some s) none) (catO (fitS pt.gsl env env') (fitBlk (oldV pt.base (pt.k m) m.nb m.nt) pt.blks m m')))) none

theorem catO_ok {a b : Option (List G)} {r : List G} (h : catO a b = some r) : ∃ x y, a = some x ∧ b = some y ∧ r = x ++ y := by
  cases a with
  | none => exact absurd h (by simp [catO])
  | some x => cases b with
    | none => exact absurd h (by simp [catO])
    | some y =>
      have h : some (x ++ y) = some r := h
      simp at h
      exact ⟨x, y, rfl, rfl, h.symm⟩

theorem memN_iff {l : List Nat} {j : Nat} : memN l j = true ↔ j ∈ l := by
  induction l with
  | nil => simp [memN]
  | cons t l ih =>
    show (Bool.rec (memN l j) true (Nat.beq j t) : Bool) = true ↔ _
    cases h : Nat.beq j t with
    | true => rw [beq_iff] at h; subst h; simp
    | false =>
      rw [beq_false] at h
      rw [List.mem_cons]
      constructor
      · intro h1; exact .inr (ih.1 h1)
      · rintro (h1 | h1)
        · exact absurd h1 h
        · exact ih.2 h1

theorem eqG_ok {a b : Option (Nat × Nat)} (h : eqG a b = true) : a = b := by
  cases a with
  | none => cases b with
    | none => rfl
    | some y => exact absurd (show false = true from h) (by simp)
  | some x => cases b with
    | none => exact absurd (show false = true from h) (by simp)
    | some y =>
      obtain ⟨h1, h2⟩ := andB_ok (show andB (Nat.beq x.1 y.1) (Nat.beq x.2 y.2) = true from h)
      rw [beq_iff] at h1 h2
      obtain ⟨x1, x2⟩ := x
      obtain ⟨y1, y2⟩ := y
      simp at h1 h2
      rw [h1, h2]

theorem onCells_some {α : Type} {b : Option Blk} {f : List V → Bool → Bool → Option (Nat × Nat) → Option α} {a : α} (h : onCells b f none = some a) : ∃ l wr pl g, b = some (.cells l wr pl g) ∧ f l wr pl g = some a := by
  cases b with
  | none => exact absurd (show none = some a from h) (by simp)
  | some b => cases b with
    | cells l wr pl g => exact ⟨l, wr, pl, g, rfl, h⟩
    | _ => exact absurd (show none = some a from h) (by simp)

section fit
variable {c : Cx} {base nb nt : Nat} {s : List G} {w : World}

theorem fitL_len {ok : V → Bool} : ∀ {l : List V} {ms : List Bool} {us : List V} {t : List G}, fitL ok l ms us = some t → t.length = cntL ms l
  | [], ms, us, t, h => by
    cases us with
    | nil =>
      have h : some [] = some t := h
      simp at h; subst h
      cases ms <;> rfl
    | cons u us => exact absurd h (by simp [fitL])
  | v :: l, ms, us, t, h => by
    cases us with
    | nil => exact absurd h (by simp [fitL])
    | cons u us => cases ms with
      | nil =>
        obtain ⟨_, h2⟩ := selB_some (show selB (andB (eqVV v u) (ok v)) (fitL ok l [] us) none = some t from h)
        have := fitL_len h2
        rw [this]
        cases l <;> rfl
      | cons b r => cases b with
        | false =>
          obtain ⟨_, h2⟩ := selB_some (show selB (andB (eqVV v u) (ok v)) (fitL ok l r us) none = some t from h)
          have := fitL_len h2
          rw [this]; rfl
        | true =>
          obtain ⟨g, t', _, h2, rfl⟩ := consO_ok (show consO (gOf v u) (fitL ok l r us) = some t from h)
          show t'.length + 1 = cntL r l + 1
          rw [fitL_len h2]

theorem eqLf_ok {a b : Lf} (h : eqLf a b = true) : a = b := by
  cases a <;> cases b <;> first | rfl | (exact (Bool.false_ne_true h).elim) | (rw [kindNo_inj h])

theorem eqLfs_ok : ∀ {a b : List Lf}, eqLfs a b = true → a = b
  | [], [], _ => rfl
  | [], _ :: _, h => (Bool.false_ne_true h).elim
  | _ :: _, [], h => (Bool.false_ne_true h).elim
  | x :: a, y :: b, h => by
    obtain ⟨h1, h2⟩ := andB_ok (show andB (eqLf x y) (eqLfs a b) = true from h)
    rw [eqLf_ok h1, eqLfs_ok h2]

theorem onRow_some {α : Type} {b : Option Blk} {f : Nat → List Lf → E → Option α} {a : α} (h : onRow b f none = some a) : ∃ x ls n, b = some (.srow x ls n) ∧ f x ls n = some a := by
  cases b with
  | none => exact absurd (show none = some a from h) (by simp)
  | some b => cases b with
    | srow x ls n => exact ⟨x, ls, n, rfl, h⟩
    | _ => exact absurd (show none = some a from h) (by simp)

/-- one block -/
theorem fit1_ok (hrow : Nat.ble (Nat.add base s.length) 1000 = true) {ms : List Bool} {b b' : Option Blk} {t : List G} {i : Nat} (h : fit1 (oldV base s.length nb nt) nt ms b b' = some t) (hs : ∀ j, j < t.length → s[i + j]? = t[j]?) :
    t.length = onCells b (fun l _ _ _ => cntL ms l) 0 ∧ ∃ k k', gen1 b ms (base + i) = some k ∧ b' = some k' ∧ k' ≠ .rsv ∧ k'.wrB = k.wrB ∧ k'.plB = k.plB ∧ (k.live (c.anew base s nb nt) → k'.live c) ∧ ∀ loc, BlkR c w loc k' → BlkR (c.anew base s nb nt) w loc k := by
  cases b with
  | none => exact absurd (show none = some t from h) (by simp)
  | some b => cases b with
    | map => exact absurd (show none = some t from h) (by simp)
    | siter => exact absurd (show none = some t from h) (by simp)
    | pm => exact absurd (show none = some t from h) (by simp)
    | rsv => exact absurd (show none = some t from h) (by simp)
    | cells l wr pl g =>
      obtain ⟨l', wr', pl', g', rfl, h2⟩ := onCells_some (show onCells b' (fun l' wr' pl' g' => selB (andB (eqB wr wr') (andB (eqB pl pl') (andB (eqG g g') (oldG nt g)))) (fitL (oldV base s.length nb nt) l ms l') none) none = some t from h)
      obtain ⟨h3, h4⟩ := selB_some h2
      obtain ⟨h5, h6⟩ := andB_ok h3
      obtain ⟨h7, h8⟩ := andB_ok h6
      obtain ⟨h9, h10⟩ := andB_ok h8
      have e3 := eqB_iff' h5
      have e4 := eqB_iff' h7
      have e5 := eqG_ok h9
      subst e3; subst e4; subst e5
      refine ⟨fitL_len h4, _, _, rfl, rfl, (fun h => (nomatch h)), rfl, rfl, fun _ => trivial, fun loc hR => ?_⟩
      obtain ⟨cs, ty, fr, g1, g2, g3, g4, g5⟩ := hR
      obtain ⟨f1, f2, f3⟩ := fitL_ok (c := c) (base := base) (s := s) (nb := nb) (nt := nt) (i := i) h4 hs
      refine ⟨cs, ty, fr, g1, fun j v hj => ?_, g3, g4, ?_⟩
      · have hlt : j < l'.length := by
          have := (List.getElem?_eq_some_iff.1 hj).1
          omega
        obtain ⟨y, hy, hv⟩ := g2 j l'[j] (List.getElem?_eq_getElem hlt)
        exact ⟨y, hy, f3 j v l'[j] y hj (List.getElem?_eq_getElem hlt) hv⟩
      · cases g with
        | none => trivial
        | some g =>
          obtain ⟨tk, sz⟩ := g
          have h10 : Nat.blt tk nt = true := h10
          rw [blt_iff] at h10
          exact ⟨h10, g5.2⟩
    | srow x ls n =>
      obtain ⟨x', ls', n', rfl, h2⟩ := onRow_some (show onRow b' (fun a' ls' n' => selB (andB (Nat.beq x a') (andB (eqLfs ls ls') (andB (eqE n n') (oldV base s.length nb nt (.int .i64 n))))) (some []) none) none = some t from h)
      obtain ⟨h3, h4⟩ := selB_some h2
      obtain ⟨h5, h6⟩ := andB_ok h3
      obtain ⟨h7, h8⟩ := andB_ok h6
      obtain ⟨h9, h10⟩ := andB_ok h8
      rw [beq_iff] at h5
      have e1 := eqLfs_ok h7
      have e2 := eqE_ok h9
      subst h5; subst e1; subst e2
      simp at h4; subst h4
      have e3 : n.den (c.anew base s nb nt).ρ = n.den c.ρ := E.old_den (show n.old base s.length = true from h10)
      have hlv : (Blk.srow x ls n).live (c.anew base s nb nt) → (Blk.srow x ls n).live c := fun hl => by
        have hl : 0 < n.den (c.anew base s nb nt).ρ := hl
        rw [e3] at hl; exact hl
      refine ⟨rfl, _, _, rfl, rfl, (fun h => (nomatch h)), rfl, rfl, hlv, fun loc hR hn => ?_⟩
      obtain ⟨cs, ty, fr, g1, g2⟩ := hR (hlv hn)
      refine ⟨cs, ty, fr, g1, fun q r l hq hl => ?_⟩
      rw [e3] at hq
      have e4 : (c.anew base s nb nt).ρ (rowVar x r q) = c.ρ (rowVar x r q) := sub_row hrow
      rw [e4]
      exact g2 q r l hq hl

/-- the blocks -/
theorem fitBlk_ok (hrow : Nat.ble (Nat.add base s.length) 1000 = true) {m m' : Mem} (hnb : m.nb = nb) (hnt : m.nt = nt) : ∀ {bs : List (Nat × List Bool)} {t : List G} {i : Nat}, fitBlk (oldV base s.length nb nt) bs m m' = some t → (∀ j, j < t.length → s[i + j]? = t[j]?) →
    ∀ (j : Nat) (b : Blk), (genTr bs m (base + i)).get j = some b → j < nb ∧ ∃ b', m'.tr.get j = some b' ∧ b' ≠ .rsv ∧ b'.wrB = b.wrB ∧ b'.plB = b.plB ∧ (b.live (c.anew base s nb nt) → b'.live c) ∧ ∀ loc, BlkR c w loc b' → BlkR (c.anew base s nb nt) w loc b
  | [], t, i, _, _, j, b, hb => by simp [genTr, Tr.get] at hb
  | x :: bs, t, i, h, hs, j, b, hb => by
    obtain ⟨h7, h4⟩ := selB_some (show selB (Nat.blt x.1 m.nb) (catO (fit1 (oldV base s.length nb nt) m.nt x.2 (m.tr.get x.1) (m'.tr.get x.1)) (fitBlk (oldV base s.length nb nt) bs m m')) none = some t from h)
    obtain ⟨t1, t2, k1, k2, rfl⟩ := catO_ok h4
    rw [blt_iff] at h7
    rw [hnt] at k1
    obtain ⟨g0, k, k', g1, g2, gr, g3, g4, g6, g5⟩ := fit1_ok (c := c) (w := w) (i := i) hrow k1 fun j hj => by
      rw [hs j (by simp; omega), List.getElem?_append_left hj]
    have hb : (Option.rec (genTr bs m (base + i + cntB m x)) (fun k => (genTr bs m (base + i + cntB m x)).set x.1 k) (gen1 (m.tr.get x.1) x.2 (base + i)) : Tr Blk).get j = some b := hb
    rw [g1] at hb
    have hb : ((genTr bs m (base + i + cntB m x)).set x.1 k).get j = some b := hb
    rw [Tr.get_set] at hb
    split at hb
    · rename_i ej
      simp at hb; subst hb; subst ej
      exact ⟨by omega, k', g2, gr, g3, g4, g6, g5⟩
    · refine fitBlk_ok hrow hnb hnt (i := i + t1.length) k2 (fun j hj => ?_) j b ?_
      · rw [show i + t1.length + j = i + (t1.length + j) by omega, hs _ (by simp; omega), List.getElem?_append_right (by omega)]
        congr 1; omega
      · rw [g0, ← Nat.add_assoc]; exact hb

theorem fitS_ok {env env' : Env} {a : Act} (hv : ∀ j, VR c (env' j) (a.tmps.getD j undef)) : ∀ {l : List Nat} {t : List G} {i : Nat}, fitS l env env' = some t → (∀ j, j < t.length → s[i + j]? = t[j]?) →
    t.length = l.length ∧ ∀ j, VR (c.anew base s nb nt) (genS l env (base + i) j) (a.tmps.getD j undef)
  | [], t, i, h, _ => by
    have h : some [] = some t := h
    simp at h; subst h
    exact ⟨rfl, fun j => VR.bad⟩
  | x :: l, t, i, h, hs => by
    obtain ⟨g, t', h1, h2, rfl⟩ := consO_ok (show consO (gOf (env x) (env' x)) (fitS l env env') = some t from h)
    have h0 : s[i]? = some g := by have := hs 0 (by simp); simpa using this
    obtain ⟨g1, g2⟩ := fitS_ok hv (i := i + 1) h2 fun j hj => by
      have := hs (j + 1) (by simpa using hj)
      rw [show i + 1 + j = i + (j + 1) by omega]; simpa using this
    refine ⟨by simp [g1], fun j => ?_⟩
    show VR _ (Bool.rec (genS l env (base + (i + 1)) j) (genV (env x) (base + i)) (Nat.beq j x) : V) _
    cases hj : Nat.beq j x with
    | true => rw [beq_iff] at hj; subst hj; exact gOf_ok h1 (hv j) h0
    | false => exact g2 j

/-- what fits the pattern -/
theorem fitSt_ok {pt : Pt} {env : Env} {m : Mem} {env' : Env} {m' : Mem} {n : Nat} {a : Act} (h : fitSt pt env m env' m' = some s) (hm : MemR c m' w) (he : EnvR c n env' a) :
    s.length = pt.k m ∧ MemR (c.anew pt.base s m.nb m.nt) (genMem pt m) w ∧ EnvR (c.anew pt.base s m.nb m.nt) n (genEnv pt env) a ∧ ∀ b, Wr (c.anew pt.base s m.nb m.nt) (genMem pt m) b → Wr c m' b := by
  obtain ⟨h1, h2⟩ := selB_some h
  obtain ⟨h3', h4⟩ := andB_ok h1
  obtain ⟨h3, hrow⟩ := andB_ok h3'
  rw [ble_iff] at h3
  cases hc : catO (fitS pt.gsl env env') (fitBlk (oldV pt.base (pt.k m) m.nb m.nt) pt.blks m m') with
  | none => rw [hc] at h2; exact absurd (show none = some s from h2) (by simp)
  | some r =>
    rw [hc] at h2
    obtain ⟨h5, h6⟩ := selB_some (show selB (Nat.beq (lenL r) (pt.k m)) (some r) none = some s from h2)
    simp at h6; subst h6
    rw [beq_iff, lenL_eq] at h5
    obtain ⟨t1, t2, k1, k2, rfl⟩ := catO_ok hc
    rw [← h5] at k2 h4 hrow
    obtain ⟨f1, f2⟩ := fitS_ok (c := c) (base := pt.base) (nb := m.nb) (nt := m.nt) (s := t1 ++ t2) (i := 0) he.slot k1 fun j hj => by
      rw [Nat.zero_add, List.getElem?_append_left hj]
    have hb := fun j b => fitBlk_ok (c := c) (w := w) (base := pt.base) (s := t1 ++ t2) (nb := m.nb) (nt := m.nt) (m := m) (m' := m') hrow rfl rfl (i := t1.length) k2 (fun j hj => by
      rw [List.getElem?_append_right (by omega)]; congr 1; omega) j b
    have hb : ∀ (j : Nat) (b : Blk), (genMem pt m).tr.get j = some b → j < m.nb ∧ ∃ b', m'.tr.get j = some b' ∧ b' ≠ .rsv ∧ b'.wrB = b.wrB ∧ b'.plB = b.plB ∧ (b.live (c.anew pt.base (t1 ++ t2) m.nb m.nt) → b'.live c) ∧ ∀ loc, BlkR c w loc b' → BlkR (c.anew pt.base (t1 ++ t2) m.nb m.nt) w loc b := by
      intro j b h
      refine hb j b ?_
      have h : (genTr pt.blks m (pt.base + lenL pt.gsl)).get j = some b := h
      rw [lenL_eq, ← f1] at h
      exact h
    refine ⟨h5, ⟨rfl, rfl, ?_, ?_, ?_⟩, ⟨he.size, ?_, ?_⟩, ?_⟩
    · intro i b hi
      obtain ⟨g1, b', g2, gr, _, _, _, g5⟩ := hb i b hi
      rcases (hm.blk i b' g2).known with ⟨e, _⟩ | ⟨k1, k2⟩
      · exact absurd e gr
      · exact .of ⟨k1, g1⟩ (g5 _ k2)
    · intro i j b b' hi hj hij hap l1 l2
      obtain ⟨_, d, g2, _, g3, g4, g6, _⟩ := hb i b hi
      obtain ⟨_, d', g2', _, g3', g4', g6', _⟩ := hb j b' hj
      refine hm.inj i j d d' g2 g2' hij ?_ (g6 l1) (g6' l2)
      unfold Blk.apt at *
      rw [g3, g4, g3', g4']; exact hap
    · intro t n ht
      simp [genMem, Tr.get] at ht
    · intro j
      show VR _ (selB (memN pt.keep j) (env j) (genS pt.gsl env pt.base j)) _
      cases hk : memN pt.keep j with
      | true =>
        obtain ⟨g1, g2⟩ := andB_ok (allL_ok h4 j (memN_iff.1 hk))
        have := eqVV_ok _ _ g1
        show VR _ (env j) _
        have hv := he.slot j
        rw [← this] at hv
        exact oldV_R g2 hv
      | false => exact f2 j
    · exact ⟨h3, fun i hi => ⟨⟨(he.glob.2 i hi).1, Nat.lt_of_lt_of_le hi h3⟩, (he.glob.2 i hi).2⟩⟩
    · rintro b ⟨i, blk, h7, h8, h9⟩
      obtain ⟨_, d, g2, _, g3, _, _, _⟩ := hb i blk h7
      exact ⟨i, d, g2, by rw [g3]; exact h8, h9⟩
end fit

end Go.Sy

/-
  What is proved here: a call that leaves the memory as it was, and gives the same on all ways, is one way.
  Conditions: none.
-/
namespace Go.Sy
open Go.RowKit (Below)

/-! ### blocks that are one -/

noncomputable def eqEnts (a : List (V × V × Nat)) : List (V × V × Nat) → Bool := (List.rec (motive := fun _ => List (V × V × Nat) → Bool) (fun b => (List.rec (motive := fun _ => Bool) (true) (fun _ _ _ => false) (b))) (fun x _ ih => fun b => (List.rec (motive := fun _ => Bool) (false) (fun y r _ => andB (andB (eqVV x.1 y.1) (andB (eqVV x.2.1 y.2.1) (Nat.beq x.2.2 y.2.2))) (ih r)) (b))) (a))

noncomputable def eqKvs (a : List (V × V)) : List (V × V) → Bool := (List.rec (motive := fun _ => List (V × V) → Bool) (fun b => (List.rec (motive := fun _ => Bool) (true) (fun _ _ _ => false) (b))) (fun x _ ih => fun b => (List.rec (motive := fun _ => Bool) (false) (fun y r _ => andB (andB (eqVV x.1 y.1) (eqVV x.2 y.2)) (ih r)) (b))) (a))

noncomputable def eqBlk (a b : Blk) : Bool := (Blk.rec (motive := fun _ => Bool) (fun l wr pl g => (Blk.rec (motive := fun _ => Bool) (fun l' wr' pl' g' => andB (andB (eqB wr wr') (eqB pl pl')) (andB (eqG g g') (eqLV l l'))) (fun _ _ _ => false) (fun _ _ => false) (fun _ _ _ => false) (fun _ _ => false) (false) (b))) (fun es k wr => (Blk.rec (motive := fun _ => Bool) (fun _ _ _ _ => false) (fun es' k' wr' => andB (andB (Nat.beq k k') (eqB wr wr')) (eqEnts es es')) (fun _ _ => false) (fun _ _ _ => false) (fun _ _ => false) (false) (b))) (fun l p => (Blk.rec (motive := fun _ => Bool) (fun _ _ _ _ => false) (fun _ _ _ => false) (fun l' p' => andB (Nat.beq p p') (eqEs l l')) (fun _ _ _ => false) (fun _ _ => false) (false) (b))) (fun a ls n => (Blk.rec (motive := fun _ => Bool) (fun _ _ _ _ => false) (fun _ _ _ => false) (fun _ _ => false) (fun a' ls' n' => andB (Nat.beq a a') (andB (eqLfs ls ls') (eqE n n'))) (fun _ _ => false) (false) (b))) (fun es wr => (Blk.rec (motive := fun _ => Bool) (fun _ _ _ _ => false) (fun _ _ _ => false) (fun _ _ => false) (fun _ _ _ => false) (fun es' wr' => andB (eqB wr wr') (eqKvs es es')) (false) (b))) ((Blk.rec (motive := fun _ => Bool) (fun _ _ _ _ => false) (fun _ _ _ => false) (fun _ _ => false) (fun _ _ _ => false) (fun _ _ => false) (true) (b))) (a))

noncomputable def eqOB (a b : Option Blk) : Bool := (Option.rec (motive := fun _ => Bool) (true) (fun x => (Option.rec (motive := fun _ => Bool) (false) (fun y => eqBlk x y) (b))) (a))

/-- what is in the first is in the second -/
noncomputable def subTr (t : Tr Blk) : Tr Blk → Bool :=
  Tr.rec (motive := fun _ => Tr Blk → Bool) (fun _ => true) (fun v _ _ _ _ i0 i1 i2 i3 u => Tr.rec (motive := fun _ => Bool) false (fun w u0 u1 u2 u3 _ _ _ _ => andB (eqOB v w) (andB (andB (i0 u0) (i1 u1)) (andB (i2 u2) (i3 u3)))) u) t

theorem eqEnts_ok : ∀ {a b : List (V × V × Nat)}, eqEnts a b = true → a = b
  | [], [], _ => rfl
  | [], _ :: _, h => (Bool.false_ne_true h).elim
  | _ :: _, [], h => (Bool.false_ne_true h).elim
  | (x1, x2, x3) :: a, (y1, y2, y3) :: b, h => by
    obtain ⟨h1, h2⟩ := andB_ok (show andB (andB (eqVV x1 y1) (andB (eqVV x2 y2) (Nat.beq x3 y3))) (eqEnts a b) = true from h)
    obtain ⟨h3, h4⟩ := andB_ok h1
    obtain ⟨h5, h6⟩ := andB_ok h4
    rw [eqVV_ok _ _ h3, eqVV_ok _ _ h5, (beq_iff _ _).1 h6, eqEnts_ok h2]

theorem eqKvs_ok : ∀ {a b : List (V × V)}, eqKvs a b = true → a = b
  | [], [], _ => rfl
  | [], _ :: _, h => (Bool.false_ne_true h).elim
  | _ :: _, [], h => (Bool.false_ne_true h).elim
  | (x1, x2) :: a, (y1, y2) :: b, h => by
    obtain ⟨h1, h2⟩ := andB_ok (show andB (andB (eqVV x1 y1) (eqVV x2 y2)) (eqKvs a b) = true from h)
    obtain ⟨h3, h4⟩ := andB_ok h1
    rw [eqVV_ok _ _ h3, eqVV_ok _ _ h4, eqKvs_ok h2]

theorem eqBlk_ok {a b : Blk} (h : eqBlk a b = true) : a = b := by
  cases a <;> cases b <;> try exact (Bool.false_ne_true h).elim
  case cells.cells l wr pl g l' wr' pl' g' =>
    obtain ⟨h1, h2⟩ := andB_ok (show andB (andB (eqB wr wr') (eqB pl pl')) (andB (eqG g g') (eqLV l l')) = true from h)
    obtain ⟨h3, h4⟩ := andB_ok h1
    obtain ⟨h5, h6⟩ := andB_ok h2
    have := eqVV_ok _ _ (show eqVV (.agg l) (.agg l') = true from h6)
    simp at this
    rw [eqB_iff' h3, eqB_iff' h4, eqG_ok h5, this]
  case map.map es k wr es' k' wr' =>
    obtain ⟨h1, h2⟩ := andB_ok (show andB (andB (Nat.beq k k') (eqB wr wr')) (eqEnts es es') = true from h)
    obtain ⟨h3, h4⟩ := andB_ok h1
    rw [(beq_iff _ _).1 h3, eqB_iff' h4, eqEnts_ok h2]
  case rsv.rsv => rfl
  case pm.pm es wr es' wr' =>
    obtain ⟨h1, h2⟩ := andB_ok (show andB (eqB wr wr') (eqKvs es es') = true from h)
    rw [eqB_iff' h1, eqKvs_ok h2]
  case siter.siter l p l' p' =>
    obtain ⟨h1, h2⟩ := andB_ok (show andB (Nat.beq p p') (eqEs l l') = true from h)
    rw [(beq_iff _ _).1 h1, eqEs_ok h2]
  case srow.srow x ls n x' ls' n' =>
    obtain ⟨h1, h2⟩ := andB_ok (show andB (Nat.beq x x') (andB (eqLfs ls ls') (eqE n n')) = true from h)
    obtain ⟨h3, h4⟩ := andB_ok h2
    rw [(beq_iff _ _).1 h1, eqLfs_ok h3, eqE_ok h4]

theorem subTr_get : ∀ {t u : Tr Blk} {i : Nat} {b : Blk}, subTr t u = true → t.get i = some b → u.get i = some b
  | .nil, u, i, b, _, h => by simp [Tr.get] at h
  | .node v t0 t1 t2 t3, .nil, i, b, hs, _ => (Bool.false_ne_true hs).elim
  | .node v t0 t1 t2 t3, .node w u0 u1 u2 u3, i, b, hs, h => by
    obtain ⟨h1, h2⟩ := andB_ok (show andB (eqOB v w) (andB (andB (subTr t0 u0) (subTr t1 u1)) (andB (subTr t2 u2) (subTr t3 u3))) = true from hs)
    obtain ⟨h3, h4⟩ := andB_ok h2
    obtain ⟨h5, h6⟩ := andB_ok h3
    obtain ⟨h7, h8⟩ := andB_ok h4
    cases i with
    | zero =>
      have h : v = some b := h
      subst h
      cases w with
      | none => exact (Bool.false_ne_true (show eqOB (some b) none = true from h1)).elim
      | some y =>
        have := eqBlk_ok (show eqBlk b y = true from h1)
        subst this; rfl
    | succ k =>
      have h : (Bool.rec (Bool.rec (t3.get (Nat.div k 4)) (t2.get (Nat.div k 4)) (Nat.beq (Nat.mod k 4) 2)) (Bool.rec (t1.get (Nat.div k 4)) (t0.get (Nat.div k 4)) (Nat.beq (Nat.mod k 4) 0)) (Nat.blt (Nat.mod k 4) 2) : Option Blk) = some b := h
      show (Bool.rec (Bool.rec (u3.get (Nat.div k 4)) (u2.get (Nat.div k 4)) (Nat.beq (Nat.mod k 4) 2)) (Bool.rec (u1.get (Nat.div k 4)) (u0.get (Nat.div k 4)) (Nat.beq (Nat.mod k 4) 0)) (Nat.blt (Nat.mod k 4) 2) : Option Blk) = some b
      cases c1 : Nat.blt (Nat.mod k 4) 2 with
      | false =>
        rw [c1] at h
        cases c2 : Nat.beq (Nat.mod k 4) 2 with
        | false => rw [c2] at h; exact subTr_get h8 h
        | true => rw [c2] at h; exact subTr_get h7 h
      | true =>
        rw [c1] at h
        cases c2 : Nat.beq (Nat.mod k 4) 0 with
        | false => rw [c2] at h; exact subTr_get h6 h
        | true => rw [c2] at h; exact subTr_get h5 h

/-! ### back to the names that were -/

section back
variable {c c1 : Cx}

theorem Cp.R.back (h : c.le c1) {p : Cp} {k k' : Nat} (hp : p.R c k) (hq : p.R c1 k') : p.R c k' := by
  cases p with
  | n => exact hq
  | t i j => exact ⟨hp.1, by rw [← h.γ i hp.1]; exact hq.2⟩

mutual
theorem VR.back (h : c.le c1) : ∀ {v : V} {x y : Value}, VR c v x → VR c1 v y → VR c v y
  | .bool b, x, y, _, hy => by unfold VR at *; rw [← h.ρ]; exact hy
  | .int k e, x, y, _, hy => by unfold VR at *; rw [← h.ρ]; exact hy
  | .str l, x, y, _, hy => by unfold VR BR at *; rw [← h.ρ]; exact hy
  | .nilPtr, x, y, _, hy => by unfold VR at *; exact hy
  | .ptr i o, x, y, hx, hy => by
    unfold VR Cx.ad at *
    exact ⟨hx.1, by rw [← h.β i hx.1]; exact hy.2⟩
  | .nilSlice, x, y, _, hy => by unfold VR at *; exact hy
  | .slice i o len cp, x, y, hx, hy => by
    unfold VR Cx.ad at *
    obtain ⟨h1, cap, h2, _⟩ := hx
    obtain ⟨_, cap', h3, h4, h5⟩ := hy
    exact ⟨h1, cap', h2.back h h3, h4, by rw [← h.β i h1]; exact h5⟩
  | .nilMap, x, y, _, hy => by unfold VR at *; exact hy
  | .map i, x, y, hx, hy => by unfold VR at *; exact ⟨hx.1, by rw [← h.β i hx.1]; exact hy.2⟩
  | .func fn a b, x, y, hx, hy => by
    unfold VR at *
    obtain ⟨as, bs, e, h1, h2⟩ := hx
    obtain ⟨as', bs', e', h3, h4⟩ := hy
    exact ⟨as', bs', e', VRs.back h h1 h3, VRs.back h h2 h4⟩
  | .nilFunc, x, y, _, hy => by unfold VR at *; exact hy
  | .iface t v, x, y, hx, hy => by
    unfold VR at *
    obtain ⟨u, _, h1⟩ := hx
    obtain ⟨z, e, h2⟩ := hy
    exact ⟨z, e, VR.back h h1 h2⟩
  | .nilIface, x, y, _, hy => by unfold VR at *; exact hy
  | .agg l, x, y, hx, hy => by
    unfold VR at *
    obtain ⟨u, _, h1⟩ := hx
    obtain ⟨z, e, h2⟩ := hy
    exact ⟨z, e, VRs.back h h1 h2⟩
  | .tuple l, x, y, hx, hy => by
    unfold VR at *
    obtain ⟨u, _, h1⟩ := hx
    obtain ⟨z, e, h2⟩ := hy
    exact ⟨z, e, VRs.back h h1 h2⟩
  | .bad, x, y, _, _ => by unfold VR; trivial
  | .eslice i z, x, y, hx, hy => by
    unfold VR Cx.ad at *
    obtain ⟨_, o, cap, h1, h2⟩ := hy
    obtain ⟨g0, _, _, _, g2⟩ := hx
    refine ⟨g0, o, cap, by rw [← h.β i g0]; exact h1, ?_⟩
    cases z with
    | none => exact h2
    | some a => exact ⟨g2.1, h2.2.imp id fun ⟨k1, k2⟩ => ⟨k1, by rw [← h.γ _ g2.1]; exact k2⟩⟩
  | .sarr i sz n, x, y, hx, hy => by
    unfold VR Cx.ad at *
    obtain ⟨_, k, cap, h1, h2⟩ := hy
    exact ⟨hx.1, k, cap, by rw [← h.ρ]; exact h1, by rw [← h.β i hx.1]; exact h2⟩
  | .sptr i sz e f, x, y, hx, hy => by
    unfold VR Cx.ad at *
    obtain ⟨_, j, h1, h2⟩ := hy
    exact ⟨hx.1, j, by rw [← h.ρ]; exact h1, by rw [← h.β i hx.1]; exact h2⟩
theorem VRs.back (h : c.le c1) : ∀ {l : List V} {xs ys : List Value}, VRs c l xs → VRs c1 l ys → VRs c l ys
  | [], xs, ys, _, hy => by unfold VRs at *; exact hy
  | v :: l, xs, ys, hx, hy => by
    unfold VRs at *
    obtain ⟨x, r, _, h1, h2⟩ := hx
    obtain ⟨y, s, e, h3, h4⟩ := hy
    exact ⟨y, s, e, VR.back h h1 h3, VRs.back h h2 h4⟩
end

theorem KvR.back (h : c.le c1) : ∀ {es : List (V × V)} {l l1 : List MapEntry}, KvR c es l → KvR c1 es l1 → KvR c es l1
  | [], [], [], _, _ => trivial
  | _ :: _, _ :: _, _ :: _, ⟨h1, h2, h3⟩, ⟨k1, k2, k3⟩ => ⟨VR.back h h1 k1, VR.back h h2 k2, KvR.back h h3 k3⟩
  | [], _ :: _, _, h, _ => h.elim
  | [], [], _ :: _, _, h => h.elim
  | _ :: _, [], _, h, _ => h.elim
  | _ :: _, _ :: _, [], _, h => h.elim

theorem BlkR.back (h : c.le c1) {w w1 : World} {loc : Nat × Nat} {b : Blk} (hb : BlkR c w loc b) (hb1 : BlkR c1 w1 loc b) : BlkR c w1 loc b := by
  cases b with
  | cells l wr pl g =>
    obtain ⟨cs, t, fr, h1, h2, h3, h4, h5⟩ := hb
    obtain ⟨cs', t', fr', k1, k2, k3, k4, k5⟩ := hb1
    refine ⟨cs', t', fr', k1, fun j v hj => ?_, k3, k4, ?_⟩
    · obtain ⟨x, _, hx⟩ := h2 j v hj
      obtain ⟨y, hy, hv⟩ := k2 j v hj
      exact ⟨y, hy, VR.back h hx hv⟩
    · cases g with
      | none => trivial
      | some g => obtain ⟨tk, sz⟩ := g; exact ⟨h5.1, by show loc.2 + c.γ tk * sz ≤ cs'.size; rw [← h.γ tk h5.1]; exact k5.2⟩
  | map es clock wr =>
    obtain ⟨es', h1, h2⟩ := hb
    obtain ⟨es1, k1, k2⟩ := hb1
    exact ⟨es1, k1, k2.1, fun n e hn => by
      obtain ⟨x, _, hk, hv, _⟩ := h2.2 n e hn
      obtain ⟨y, hy, gk, gv, gb⟩ := k2.2 n e hn
      exact ⟨y, hy, VR.back h hk gk, VR.back h hv gv, gb⟩⟩
  | rsv => exact hb.elim
  | pm es wr =>
    obtain ⟨es', k, h1, l', h2, h3⟩ := hb
    obtain ⟨es1, k1, g1, l1, g2, g3⟩ := hb1
    exact ⟨es1, k1, g1, l1, g2, h3.back h g3⟩
  | siter l pos =>
    obtain ⟨s, k1, k2⟩ := hb1
    exact ⟨s, k1, by unfold BR at *; rw [← h.ρ]; exact k2⟩
  | srow a ls n =>
    intro hn
    obtain ⟨cs, t, fr, k1, k2⟩ := hb1 (by rw [h.ρ]; exact hn)
    exact ⟨cs, t, fr, k1, fun q r l hq hl => by rw [← h.ρ] at hq ⊢; exact k2 q r l hq hl⟩

theorem Step.back {m m1 : Mem} {w w1 : World} (hm : MemR c m w) (s : Step c m w c1 m1 w1) (hs : subTr m.tr m1.tr = true) : Step c m w c m w1 :=
  ⟨⟨hm.nb, hm.nt, fun i b hb => by
      rcases (hm.blk i b hb).known with ⟨rfl, h1, h2⟩ | ⟨h1, h2⟩
      · exact ⟨h1, h2⟩
      · rcases (s.rel.blk i b (subTr_get hs hb)).known with ⟨rfl, _⟩ | ⟨_, h3⟩
        · exact h2.elim
        · rw [s.le.β i h1] at h3
          exact .of h1 (h2.back s.le h3), hm.inj, hm.tok⟩, Cx.le.refl c, s.os, s.tape, s.output, s.size, s.frame, fun _ h => .inl h, fun _ h => .inl h⟩
end back

/-- a value without places: it means the same for all names -/
noncomputable def flatV (v : V) : Bool := V.rec (motive_1 := fun _ => Bool) (motive_2 := fun _ => Bool)
  (fun _ => true) (fun _ _ => true) (fun _ => true) true (fun _ _ => false) true (fun _ _ _ _ => false) true (fun _ => false)
  (fun _ _ _ ia ib => andB ia ib) true (fun _ _ ih => ih) true (fun _ ih => ih) (fun _ ih => ih) true (fun _ _ _ => false) (fun _ _ _ _ => false) (fun _ _ => false) true (fun _ _ ih il => andB ih il) v

mutual
theorem flatV_R {c c1 : Cx} (h : c1.ρ = c.ρ) : ∀ {v : V} {x : Value}, flatV v = true → VR c1 v x → VR c v x
  | .bool b, x, _, hy => by unfold VR at *; rw [← h]; exact hy
  | .int k e, x, _, hy => by unfold VR at *; rw [← h]; exact hy
  | .str l, x, _, hy => by unfold VR BR at *; rw [← h]; exact hy
  | .nilPtr, x, _, hy => by unfold VR at *; exact hy
  | .ptr i o, x, hf, _ => (Bool.false_ne_true hf).elim
  | .nilSlice, x, _, hy => by unfold VR at *; exact hy
  | .slice i o len cp, x, hf, _ => (Bool.false_ne_true hf).elim
  | .nilMap, x, _, hy => by unfold VR at *; exact hy
  | .map i, x, hf, _ => (Bool.false_ne_true hf).elim
  | .func fn a b, x, hf, hy => by
    obtain ⟨f1, f2⟩ := andB_ok (show andB (flatV (.agg a)) (flatV (.agg b)) = true from hf)
    rw [VR.func] at *
    obtain ⟨as', bs', e', h3, h4⟩ := hy
    exact ⟨as', bs', e', flatVs_R h f1 h3, flatVs_R h f2 h4⟩
  | .nilFunc, x, _, hy => by unfold VR at *; exact hy
  | .iface t v, x, hf, hy => by
    rw [VR.iface] at *
    obtain ⟨z, e, h2⟩ := hy
    exact ⟨z, e, flatV_R h (show flatV v = true from hf) h2⟩
  | .nilIface, x, _, hy => by unfold VR at *; exact hy
  | .agg l, x, hf, hy => by
    rw [VR.agg] at *
    obtain ⟨z, e, h2⟩ := hy
    exact ⟨z, e, flatVs_R h hf h2⟩
  | .tuple l, x, hf, hy => by
    rw [VR.tuple] at *
    obtain ⟨z, e, h2⟩ := hy
    exact ⟨z, e, flatVs_R h (show flatV (.agg l) = true from hf) h2⟩
  | .bad, x, _, _ => by unfold VR; trivial
  | .sarr _ _ _, x, hf, _ => (Bool.false_ne_true hf).elim
  | .eslice _ _, x, hf, _ => (Bool.false_ne_true hf).elim
  | .sptr _ _ _ _, x, hf, _ => (Bool.false_ne_true hf).elim
theorem flatVs_R {c c1 : Cx} (h : c1.ρ = c.ρ) : ∀ {l : List V} {xs : List Value}, flatV (.agg l) = true → VRs c1 l xs → VRs c l xs
  | [], xs, _, hy => by rw [VRs.nil_iff] at *; exact hy
  | v :: l, xs, hf, hy => by
    obtain ⟨f1, f2⟩ := andB_ok (show andB (flatV v) (flatV (.agg l)) = true from hf)
    obtain ⟨x, r, rfl, h1, h2⟩ := VRs.cons_iff.1 hy
    exact VRs.cons (flatV_R h f1 h1) (flatVs_R h f2 h2)
end

/-! ### the join -/

/-- a leaf that leaves the memory as it was -/
noncomputable def quiet (m : Mem) (r : Rs V) : Bool := andB (flatV r.v) (subTr m.tr r.m.tr)

/-- all leaves are quiet, and give 'v' -/
noncomputable def allQ (m : Mem) (v : V) (t : T (Rs V)) : Bool := (T.rec (motive := fun _ => Bool) (fun r => andB (eqVV v r.v) (quiet m r)) (fun _ _ _ ix iy => andB ix iy) (fun _ => false) (t))

noncomputable def firstV (t : T (Rs V)) : Option V := (T.rec (motive := fun _ => Option V) (fun r => some r.v) (fun _ _ _ ix _ => ix) (fun _ => none) (t))

/-- a quiet leaf: the memory as it was -/
noncomputable def dropT (m : Mem) (t : T (Rs V)) : T (Rs V) := (T.rec (motive := fun _ => T (Rs V)) (fun r => selB (quiet m r) (.ret ⟨r.v, m, r.p⟩) (.ret r)) (fun c _ _ ix iy => .br c ix iy) (fun s => .fail s) (t))

noncomputable def joinT (m : Mem) (p : Pc) (t : T (Rs V)) : T (Rs V) := (Option.rec (motive := fun _ => T (Rs V)) (t) (fun v => selB (allQ m v t) (.ret ⟨v, m, p⟩) (dropT m t)) (firstV t))

noncomputable def joinM (ev : List V → M V) (l : List V) : M V := fun m p => joinT m p (ev l m p)

noncomputable def kwJoin (fs : List Nat) (r : Kw) : Kw := fun i => selB (memN fs i) (some joinM) (r i)

theorem allQ_out {ρ : Nat → Int} {m : Mem} {v : V} : ∀ {t : T (Rs V)}, allQ m v t = true → ∃ m1 q, t.out ρ = some ⟨v, m1, q⟩ ∧ quiet m ⟨v, m1, q⟩ = true
  | .ret ⟨u, m1, q⟩, h => by
    obtain ⟨h1, h2⟩ := andB_ok (show andB (eqVV v u) (quiet m ⟨u, m1, q⟩) = true from h)
    have := eqVV_ok _ _ h1
    subst this
    exact ⟨m1, q, rfl, h2⟩
  | .br c x y, h => by
    obtain ⟨h1, h2⟩ := andB_ok (show andB (allQ m v x) (allQ m v y) = true from h)
    simp only [T.out]
    cases c.den ρ with
    | true => obtain ⟨m1, q, e1, e2⟩ := allQ_out (ρ := ρ) h1; exact ⟨m1, q, by simpa using e1, e2⟩
    | false => obtain ⟨m1, q, e1, e2⟩ := allQ_out (ρ := ρ) h2; exact ⟨m1, q, by simpa using e1, e2⟩
  | .fail _, h => (Bool.false_ne_true h).elim

theorem dropT_out {ρ : Nat → Int} {m : Mem} {r : Rs V} : ∀ {t : T (Rs V)}, (dropT m t).out ρ = some r → t.out ρ = some r ∨ ∃ m1, t.out ρ = some ⟨r.v, m1, r.p⟩ ∧ r.m = m ∧ quiet m ⟨r.v, m1, r.p⟩ = true
  | .ret ⟨u, m1, q⟩, h => by
    have h : (selB (quiet m ⟨u, m1, q⟩) (T.ret (⟨u, m, q⟩ : Rs V)) (.ret ⟨u, m1, q⟩)).out ρ = some r := h
    cases hq : quiet m ⟨u, m1, q⟩ with
    | false => rw [hq] at h; exact .inl h
    | true =>
      rw [hq] at h
      simp [selB, T.out] at h
      subst h
      exact .inr ⟨m1, rfl, rfl, hq⟩
  | .br c x y, h => by
    have h : (T.br c (dropT m x) (dropT m y)).out ρ = some r := h
    simp only [T.out] at h ⊢
    cases hc : c.den ρ with
    | true => rw [hc] at h; exact dropT_out (t := x) (by simpa using h)
    | false => rw [hc] at h; exact dropT_out (t := y) (by simpa using h)
  | .fail _, h => .inl h

theorem joinM_ok {P : Program} {ρ : Nat → Int} {f : FuncId} {ev : List V → M V} (hev : FnOK P ρ f ev) : FnOK P ρ f (joinM ev) := by
  intro l c m m' w p q v args hρ hm hp hg hl h
  have back : ∀ (m1 : Mem) (q1 : Pc), (ev l m p).out c.ρ = some ⟨v, m1, q1⟩ → quiet m ⟨v, m1, q1⟩ = true → ∀ q', (PcR c.ρ q1 → PcR c.ρ q') → CallOK P f args c m w m v q' := by
    intro m1 q1 ho hq q' hpq
    obtain ⟨h1, h2⟩ := andB_ok hq
    obtain ⟨k1, k2⟩ := hev l c m m1 w p q1 v args hρ hm hp hg hl ho
    refine ⟨k1, k2.mono fun e w' hR => ?_⟩
    obtain ⟨c1, z, rfl, s, hz, hq1⟩ := hR
    exact ⟨c, z, rfl, s.back hm h2, flatV_R s.le.ρ h1 hz, hpq hq1⟩
  have h : (Option.rec (ev l m p) (fun v => selB (allQ m v (ev l m p)) (.ret ⟨v, m, p⟩) (dropT m (ev l m p))) (firstV (ev l m p)) : T (Rs V)).out c.ρ = some ⟨v, m', q⟩ := h
  cases hf : firstV (ev l m p) with
  | none => rw [hf] at h; exact hev l c m m' w p q v args hρ hm hp hg hl h
  | some u =>
    rw [hf] at h
    have h : (selB (allQ m u (ev l m p)) (T.ret (⟨u, m, p⟩ : Rs V)) (dropT m (ev l m p))).out c.ρ = some ⟨v, m', q⟩ := h
    cases ha : allQ m u (ev l m p) with
    | true =>
      rw [ha] at h
      simp [selB, T.out] at h
      obtain ⟨rfl, rfl, rfl⟩ := h
      obtain ⟨m1, q1, e1, e2⟩ := allQ_out (ρ := c.ρ) ha
      exact back m1 q1 e1 e2 p fun _ => hp
    | false =>
      rw [ha] at h
      rcases dropT_out (show (dropT m (ev l m p)).out c.ρ = some ⟨v, m', q⟩ from h) with h1 | ⟨m1, h1, h2, h3⟩
      · exact hev l c m m' w p q v args hρ hm hp hg hl h1
      · have h2 : m' = m := h2
        subst h2
        exact back m1 q h1 h3 q id

theorem kwJoin_ok {P : Program} {ρ : Nat → Int} {fs : List Nat} {r : Kw} (hr : KwOK P ρ r) : KwOK P ρ (kwJoin fs r) := by
  intro f tr h ev hev
  have h : selB (memN fs f) (some joinM) (r f) = some tr := h
  cases hm : memN fs f with
  | true =>
    rw [hm] at h
    have h : some joinM = some tr := h
    simp at h; subst h
    exact joinM_ok hev
  | false => rw [hm] at h; exact hr f tr h ev hev

end Go.Sy

/-
  What is proved here: code whose ways are joined where they end alike: a slot that differs is not known any more.
  Conditions: none.
-/
namespace Go.Sy

/-! ### memories that are one -/

noncomputable def eqOBx (a b : Option Blk) : Bool := (Option.rec (motive := fun _ => Bool) ((Option.rec (motive := fun _ => Bool) (true) (fun _ => false) (b))) (fun x => (Option.rec (motive := fun _ => Bool) (false) (fun y => eqBlk x y) (b))) (a))
noncomputable def eqON (a b : Option Nat) : Bool := (Option.rec (motive := fun _ => Bool) ((Option.rec (motive := fun _ => Bool) (true) (fun _ => false) (b))) (fun x => (Option.rec (motive := fun _ => Bool) (false) (fun y => Nat.beq x y) (b))) (a))

noncomputable def eqTr {α : Type} (f : Option α → Option α → Bool) (t : Tr α) : Tr α → Bool :=
  Tr.rec (motive := fun _ => Tr α → Bool) (fun u => Tr.rec (motive := fun _ => Bool) true (fun _ _ _ _ _ _ _ _ _ => false) u) (fun v _ _ _ _ i0 i1 i2 i3 u => Tr.rec (motive := fun _ => Bool) false (fun w u0 u1 u2 u3 _ _ _ _ => andB (f v w) (andB (andB (i0 u0) (i1 u1)) (andB (i2 u2) (i3 u3)))) u) t

noncomputable def eqMem (a b : Mem) : Bool := (Mem.rec (motive := fun _ => Bool) (fun t n k u => (Mem.rec (motive := fun _ => Bool) (fun t' n' k' u' => andB (andB (Nat.beq n n') (Nat.beq u u')) (andB (eqTr eqON k k') (eqTr eqOBx t t'))) (b))) (a))

theorem eqTr_ok {α : Type} {f : Option α → Option α → Bool} (hf : ∀ a b, f a b = true → a = b) : ∀ {t u : Tr α}, eqTr f t u = true → t = u
  | .nil, .nil, _ => rfl
  | .nil, .node .., h => (Bool.false_ne_true h).elim
  | .node .., .nil, h => (Bool.false_ne_true h).elim
  | .node v t0 t1 t2 t3, .node w u0 u1 u2 u3, h => by
    obtain ⟨h1, h2⟩ := andB_ok (show andB (f v w) (andB (andB (eqTr f t0 u0) (eqTr f t1 u1)) (andB (eqTr f t2 u2) (eqTr f t3 u3))) = true from h)
    obtain ⟨h3, h4⟩ := andB_ok h2
    obtain ⟨h5, h6⟩ := andB_ok h3
    obtain ⟨h7, h8⟩ := andB_ok h4
    rw [hf _ _ h1, eqTr_ok hf h5, eqTr_ok hf h6, eqTr_ok hf h7, eqTr_ok hf h8]

theorem eqOBx_ok (a b : Option Blk) (h : eqOBx a b = true) : a = b := by
  cases a <;> cases b <;> try exact (Bool.false_ne_true h).elim
  · rfl
  · exact congrArg some (eqBlk_ok h)

theorem eqON_ok (a b : Option Nat) (h : eqON a b = true) : a = b := by
  cases a <;> cases b <;> try exact (Bool.false_ne_true h).elim
  · rfl
  · exact congrArg some ((beq_iff _ _).1 h)

theorem eqMem_ok {a b : Mem} (h : eqMem a b = true) : a = b := by
  obtain ⟨t, n, k, u⟩ := a
  obtain ⟨t', n', k', u'⟩ := b
  obtain ⟨h1, h2⟩ := andB_ok (show andB (andB (Nat.beq n n') (Nat.beq u u')) (andB (eqTr eqON k k') (eqTr eqOBx t t')) = true from h)
  obtain ⟨h3, h4⟩ := andB_ok h1
  obtain ⟨h5, h6⟩ := andB_ok h2
  rw [(beq_iff _ _).1 h3, (beq_iff _ _).1 h4, eqTr_ok eqON_ok h5, eqTr_ok eqOBx_ok h6]

/-! ### ways that end alike -/

noncomputable def sameX (a b : X) : Bool := (X.rec (motive := fun _ => Bool) ((X.rec (motive := fun _ => Bool) (true) (fun _ => false) (false) (fun _ => false) (b))) (fun i => (X.rec (motive := fun _ => Bool) (false) (fun j => Nat.beq i j) (false) (fun _ => false) (b))) ((X.rec (motive := fun _ => Bool) (false) (fun _ => false) (true) (fun _ => false) (b))) (fun i => (X.rec (motive := fun _ => Bool) (false) (fun _ => false) (false) (fun j => Nat.beq i j) (b))) (a))

noncomputable def mergeE (e f : Env) : Env := fun j => selB (eqVV (e j) (f j)) (e j) .bad

noncomputable def mergeR (ks : List Nat) (r s : Rs XE) (p : Pc) (d : T (Rs XE)) : T (Rs XE) :=
  onXE r.v fun x e => onXE s.v fun y f => selB (andB (sameX x y) (andB (allL (fun j => eqVV (e j) (f j)) ks) (eqMem r.m s.m))) (.ret ⟨⟨x, mergeE e f⟩, r.m, p⟩) d

noncomputable def onRet {α β : Type} (t : T α) (f : α → β) (d : β) : β := (T.rec (motive := fun _ => β) (fun r => f r) (fun _ _ _ _ _ => d) (fun _ => d) (t))

noncomputable def brJ (ks : List Nat) (c : B) (p : Pc) (x y : T (Rs XE)) : T (Rs XE) := onRet x (fun r => onRet y (fun s => mergeR ks r s p (.br c x y)) (.br c x y)) (.br c x y)

noncomputable def joinX (ks : List Nat) (t : T (Rs XE)) : Pc → T (Rs XE) := (T.rec (motive := fun _ => Pc → T (Rs XE)) (fun r => fun _ => .ret r) (fun c _ _ ix iy => fun p => brJ ks c p (ix (p.add c true)) (iy (p.add c false))) (fun s => fun _ => .fail s) (t))

noncomputable def joinXM (ks : List Nat) (x : M XE) : M XE := fun m p => joinX ks (x m p) p

/-- e but for what is not known any more -/
def Less (e' e : Env) : Prop := ∀ j, e' j = e j ∨ e' j = .bad

theorem Less.trans {a b c : Env} (h : Less a b) (g : Less b c) : Less a c := fun j => by
  rcases h j with h | h
  · rcases g j with g | g
    · exact .inl (h.trans g)
    · exact .inr (h.trans g)
  · exact .inr h

theorem mergeE_left (e f : Env) : Less (mergeE e f) e := fun j => by
  show selB (eqVV (e j) (f j)) (e j) .bad = e j ∨ _
  cases h : eqVV (e j) (f j) with
  | true => exact .inl rfl
  | false => exact .inr (by show selB (eqVV (e j) (f j)) (e j) .bad = .bad; rw [h]; rfl)

theorem mergeE_right (e f : Env) : Less (mergeE e f) f := fun j => by
  show selB (eqVV (e j) (f j)) (e j) .bad = f j ∨ _
  cases h : eqVV (e j) (f j) with
  | true => exact .inl (eqVV_ok _ _ h)
  | false => exact .inr (by show selB (eqVV (e j) (f j)) (e j) .bad = .bad; rw [h]; rfl)

theorem sameX_ok {a b : X} (h : sameX a b = true) : a = b := by
  cases a <;> cases b <;> first
    | rfl
    | exact (Bool.false_ne_true h).elim
    | exact congrArg X.exit ((beq_iff _ _).1 h)
    | exact congrArg X.goto ((beq_iff _ _).1 h)

theorem onRet_cases {α β : Type} (t : T α) (f : α → β) (d : β) : (∃ r, t = .ret r ∧ onRet t f d = f r) ∨ onRet t f d = d := by
  cases t with
  | ret r => exact .inl ⟨r, rfl, rfl⟩
  | br c x y => exact .inr rfl
  | fail s => exact .inr rfl

theorem joinX_out {ρ : Nat → Int} {ks : List Nat} : ∀ {t : T (Rs XE)} {p : Pc} {r : Rs XE}, PcR ρ p → (joinX ks t p).out ρ = some r →
    ∃ e q, t.out ρ = some ⟨⟨r.v.x, e⟩, r.m, q⟩ ∧ Less r.v.env e ∧ (PcR ρ q → PcR ρ r.p)
  | .ret s, p, r, _, h => by
    have h := Option.some.inj (show some s = some r from h)
    subst h
    exact ⟨s.v.env, s.p, rfl, fun j => .inl rfl, id⟩
  | .fail s, p, r, _, h => nomatch h
  | .br c x y, p, r, hp, h => by
    have hx := fun {r : Rs XE} => joinX_out (ρ := ρ) (ks := ks) (t := x) (p := p.add c true) (r := r)
    have hy := fun {r : Rs XE} => joinX_out (ρ := ρ) (ks := ks) (t := y) (p := p.add c false) (r := r)
    have plain : (T.br c (joinX ks x (p.add c true)) (joinX ks y (p.add c false))).out ρ = some r → ∃ e q, (T.br c x y).out ρ = some ⟨⟨r.v.x, e⟩, r.m, q⟩ ∧ Less r.v.env e ∧ (PcR ρ q → PcR ρ r.p) := fun h => by
      simp only [T.out] at h ⊢
      cases hc : c.den ρ with
      | true =>
        rw [hc] at h
        obtain ⟨e, q, h1, h2⟩ := hx (Pc.add_ok hp hc) (by simpa using h)
        exact ⟨e, q, by simpa using h1, h2⟩
      | false =>
        rw [hc] at h
        obtain ⟨e, q, h1, h2⟩ := hy (Pc.add_ok hp hc) (by simpa using h)
        exact ⟨e, q, by simpa using h1, h2⟩
    have h : (brJ ks c p (joinX ks x (p.add c true)) (joinX ks y (p.add c false))).out ρ = some r := h
    unfold brJ at h
    rcases onRet_cases (joinX ks x (p.add c true)) (fun r => onRet (joinX ks y (p.add c false)) (fun s => mergeR ks r s p (.br c (joinX ks x (p.add c true)) (joinX ks y (p.add c false)))) (.br c (joinX ks x (p.add c true)) (joinX ks y (p.add c false)))) (.br c (joinX ks x (p.add c true)) (joinX ks y (p.add c false))) with ⟨r1, e1, h1⟩ | h1
    · rw [h1] at h
      rcases onRet_cases (joinX ks y (p.add c false)) (fun s => mergeR ks r1 s p (.br c (joinX ks x (p.add c true)) (joinX ks y (p.add c false)))) (.br c (joinX ks x (p.add c true)) (joinX ks y (p.add c false))) with ⟨r2, e2, h2⟩ | h2
      · rw [h2] at h
        obtain ⟨⟨x1, f1⟩, m1, q1⟩ := r1
        obtain ⟨⟨x2, f2⟩, m2, q2⟩ := r2
        have h : (selB (andB (sameX x1 x2) (andB (allL (fun j => eqVV (f1 j) (f2 j)) ks) (eqMem m1 m2))) (.ret ⟨⟨x1, mergeE f1 f2⟩, m1, p⟩) (.br c (joinX ks x (p.add c true)) (joinX ks y (p.add c false))) : T (Rs XE)).out ρ = some r := h
        cases hb : andB (sameX x1 x2) (andB (allL (fun j => eqVV (f1 j) (f2 j)) ks) (eqMem m1 m2)) with
        | false => rw [hb] at h; exact plain h
        | true =>
          rw [hb] at h
          have h := Option.some.inj (show some (⟨⟨x1, mergeE f1 f2⟩, m1, p⟩ : Rs XE) = some r from h)
          subst h
          obtain ⟨g1, g2⟩ := andB_ok hb
          obtain ⟨_, g4⟩ := andB_ok g2
          have gx := sameX_ok g1
          have gm := eqMem_ok g4
          subst gx gm
          simp only [T.out]
          cases hc : c.den ρ with
          | true =>
            obtain ⟨e, q, k1, k2, _⟩ := hx (Pc.add_ok hp hc) (show (joinX ks x (p.add c true)).out ρ = some ⟨⟨x1, f1⟩, m1, q1⟩ by rw [e1]; rfl)
            exact ⟨e, q, by simpa using k1, (mergeE_left f1 f2).trans k2, fun _ => hp⟩
          | false =>
            obtain ⟨e, q, k1, k2, _⟩ := hy (Pc.add_ok hp hc) (show (joinX ks y (p.add c false)).out ρ = some ⟨⟨x1, f2⟩, m1, q2⟩ by rw [e2]; rfl)
            exact ⟨e, q, by simpa using k1, (mergeE_right f1 f2).trans k2, fun _ => hp⟩
      · rw [h2] at h; exact plain h
    · rw [h1] at h; exact plain h

/-! ### code -/

/-- the first region's number -/
noncomputable def headId (c : Code) : Option Nat := (Code.rec (motive := fun _ => Option Nat) (none) (fun id _ _ => some id) (fun _ _ ia _ => ia) (fun _ _ _ _ _ => none) (fun _ _ ih => ih) (fun _ ih => ih) (fun _ _ _ _ _ _ => none) (fun _ => none) (fun _ _ => none) (fun _ => none) (fun _ => none) (none) (fun _ => none) (c))

/-- the slots that are compared behind a statement that begins with that region -/
noncomputable def pickJ (js : List (Nat × List Nat)) (i : Nat) : Option (List Nat) := (List.rec (motive := fun _ => Option (List Nat)) (none) (fun x _ ih => selB (Nat.beq x.1 i) (some x.2) ih) (js))
noncomputable def joinOf (js : List (Nat × List Nat)) (y : Code) : Option (List Nat) := (Option.rec (motive := fun _ => Option (List Nat)) (none) (fun i => pickJ js i) (headId y))
noncomputable def joinO (o : Option (List Nat)) (x : M XE) : M XE := (Option.rec (motive := fun _ => M XE) (x) (fun ks => joinXM ks x) (o))

noncomputable def evCoC (js : List (Nat × List Nat)) (ks : List Nat) (c : Code) : Program → (FuncId → List V → M V) → Nat → Nat → CF := (Code.rec (motive := fun _ => Program → (FuncId → List V → M V) → Nat → Nat → CF) (fun _ _ _ _ => plainF fun env => M.pure ⟨.normal, env⟩) (fun _ ops d => fun P cf _ n => plainF fun env => selB d (evDrawn ops P cf n env) (evReg ops P cf n env)) (fun _ y ia ib => fun P cf it n => ⟨fun env => joinO (joinOf js y) (seqRun (ia P cf it n).run (ib P cf it n).run env), seqFr (ia P cf it n) (ib P cf it n)⟩) (fun c _ _ ix iy => fun P cf it n => plainF fun env => joinXM ks ((condV (opd c env)).thn fun b => (Bool.rec (motive := fun _ => M XE) ((iy P cf it n).run env) ((ix P cf it n).run env) (b)))) (fun id _ ih => fun P cf it n => plainF fun env => joinXM ks (((ih P cf it n).run env).bnd (blockX id))) (fun _ ih => fun P cf it n => plainF fun env => (iter (fun env => joinXM ks ((ih P cf it n).run env)) it env).bnd loopX) (fun _ _ _ _ _ _ => fun _ _ _ _ => plainF fun _ => M.fail "code") (fun id => fun _ _ _ _ => plainF fun env => M.pure ⟨.exit id, env⟩) (fun _ ih => fun P cf it n => plainF fun env => ((ih P cf it n).run env).bnd (scopeX (ih P cf it n).fr 6)) (fun k => fun _ _ _ _ => ⟨fun env => M.pure ⟨.normal, env⟩, labFr k⟩) (fun l => fun _ _ _ _ => plainF fun env => M.pure ⟨.goto l, env⟩) (fun _ _ _ _ => plainF fun env => M.pure ⟨.ret, env⟩) (fun _ => fun _ _ _ _ => plainF fun _ => M.fail "code") (c))

noncomputable def evCo (js : List (Nat × List Nat)) (ks : List Nat) (c : Code) (P : Program) (cf : FuncId → List V → M V) (it n : Nat) : Env → M XE := (evCoC js ks c P cf it n).run

noncomputable def evOneC (js : List (Nat × List Nat)) (ks : List Nat) (P : Program) (cf : FuncId → List V → M V) (it : Nat) (f : FuncId) (args : List V) : M V := (Option.rec (motive := fun _ => M V) (M.fail "no such function") (fun fn => (Option.rec (motive := fun _ => M V) (M.fail fn.name) (fun c => (evCo js ks c P cf it (slots fn.ntmps args) (setArgs args 0 env0)).bnd (endX P fn)) (fn.body))) (P.funcs[f]?))

/-- function f is run with joined ways: those that are alike in the slots ks -/
noncomputable def kwCo (P : Program) (cf : FuncId → List V → M V) (it : Nat) (f : FuncId) (js : List (Nat × List Nat)) (ks : List Nat) (r : Kw) : Kw := fun i => selB (Nat.beq i f) (some fun _ => evOneC js ks P cf it f) (r i)

section ops
variable {P : Program} {ρ : Nat → Int} {n : Nat}

theorem CodeOK.join {code : Code} {ev : Env → M XE} (h : CodeOK P ρ n code ev) (ks : List Nat) : CodeOK P ρ n code fun env => joinXM ks (ev env) := by
  intro c m m' w p q env r a hρ hm hp he hg Q hQ
  obtain ⟨e, q0, h1, h2, h3⟩ := joinX_out hp (show (joinX ks (ev env m p) p).out c.ρ = some ⟨r, m', q⟩ from hg)
  refine h hρ hm hp he (show (ev env m p).out c.ρ = some ⟨⟨r.x, e⟩, m', q0⟩ from h1) Q fun a' w' hq hA => hQ a' w' (h3 hq) ?_
  obtain ⟨c', s, he', hd⟩ := hA
  refine ⟨c', s, ⟨he'.size, fun j => ?_, he'.glob⟩, hd⟩
  rcases h2 j with h4 | h4
  · rw [show r.env j = e j from h4]; exact he'.slot j
  · rw [show r.env j = .bad from h4]; exact VR.bad

theorem CodeOK.joinO {code : Code} {ev : Env → M XE} (h : CodeOK P ρ n code ev) (o : Option (List Nat)) : CodeOK P ρ n code fun env => joinO o (ev env) := by
  cases o with
  | none => exact h
  | some ks => exact h.join ks

theorem evCoC_ok (hM : P.follows .mixedOrders = true) {cf : FuncId → List V → M V} (hcf : CallsOK P ρ cf) (js : List (Nat × List Nat)) (ks : List Nat) (it : Nat) : ∀ (code : Code), codeRegs code = true → CodeOK P ρ n code (evCoC js ks code P cf it n).run ∧ FrOK P ρ n code (evCoC js ks code P cf it n).fr
  | .skip, _ => by
    refine ⟨?_, FrOK.none fun _ => rfl⟩
    intro c m m' w p q env r a hρ hm hp he h Q hQ
    obtain ⟨rfl, rfl, rfl⟩ := M.gives_pure (show (M.pure (⟨.normal, env⟩ : XE)).gives c.ρ m p r m' q from h)
    exact wp_skip (hQ a w hp ⟨c, Step.refl hm, he, rfl⟩)
  | .label k, _ => by
    refine ⟨?_, fun l => ?_⟩
    · intro c m m' w p q env r a hρ hm hp he h Q hQ
      obtain ⟨rfl, rfl, rfl⟩ := M.gives_pure (show (M.pure (⟨.normal, env⟩ : XE)).gives c.ρ m p r m' q from h)
      exact wp_label (hQ a w hp ⟨c, Step.refl hm, he, rfl⟩)
    · show match selB (Nat.beq k l) (some fun env => M.pure (⟨.normal, env⟩ : XE)) Option.none with | some f => _ | Option.none => _
      cases hb : Nat.beq k l with
      | true =>
        rw [beq_iff] at hb
        subst hb
        refine ⟨.skip, by simp [findLabel], ?_⟩
        intro c m m' w p q env r a hρ hm hp he h Q hQ
        obtain ⟨rfl, rfl, rfl⟩ := M.gives_pure (show (M.pure (⟨.normal, env⟩ : XE)).gives c.ρ m p r m' q from h)
        exact wp_skip (hQ a w hp ⟨c, Step.refl hm, he, rfl⟩)
      | false =>
        rw [beq_false] at hb
        show findLabel (.label k) l = Option.none
        simp [findLabel, hb]
  | .exit id, _ => by
    refine ⟨?_, FrOK.none fun _ => rfl⟩
    intro c m m' w p q env r a hρ hm hp he h Q hQ
    obtain ⟨rfl, rfl, rfl⟩ := M.gives_pure (show (M.pure (⟨.exit id, env⟩ : XE)).gives c.ρ m p r m' q from h)
    exact wp_exit (hQ a w hp ⟨c, Step.refl hm, he, rfl⟩)
  | .goto l, _ => by
    refine ⟨?_, FrOK.none fun _ => rfl⟩
    intro c m m' w p q env r a hρ hm hp he h Q hQ
    obtain ⟨rfl, rfl, rfl⟩ := M.gives_pure (show (M.pure (⟨.goto l, env⟩ : XE)).gives c.ρ m p r m' q from h)
    exact wp_goto (hQ a w hp ⟨c, Step.refl hm, he, rfl⟩)
  | .ret, _ => by
    refine ⟨?_, FrOK.none fun _ => rfl⟩
    intro c m m' w p q env r a hρ hm hp he h Q hQ
    obtain ⟨rfl, rfl, rfl⟩ := M.gives_pure (show (M.pure (⟨.ret, env⟩ : XE)).gives c.ρ m p r m' q from h)
    exact wp_ret (hQ a w hp ⟨c, Step.refl hm, he, rfl⟩)
  | .seq x y, hR => by
    obtain ⟨hR1, hR2⟩ := Bool.and_eq_true_iff.1 (show (codeRegs x && codeRegs y) = true from hR)
    obtain ⟨hx, fx⟩ := evCoC_ok hM hcf js ks it x hR1
    obtain ⟨hy, fy⟩ := evCoC_ok hM hcf js ks it y hR2
    refine ⟨(hx.seq hy).joinO (joinOf js y), fun l => ?_⟩
    have gx := fx l
    have gy := fy l
    show match (Option.rec ((evCoC js ks y P cf it n).fr l) (fun f => some (seqRun f (evCoC js ks y P cf it n).run)) ((evCoC js ks x P cf it n).fr l) : Option (Env → M XE)) with | some f => _ | Option.none => _
    cases hf : (evCoC js ks x P cf it n).fr l with
    | some f =>
      rw [hf] at gx
      obtain ⟨rest, h1, h2⟩ := gx
      exact ⟨.seq rest y, by simp [findLabel, h1], h2.seq hy⟩
    | none =>
      rw [hf] at gx
      have gx : findLabel x l = Option.none := gx
      show match (evCoC js ks y P cf it n).fr l with | some f => _ | Option.none => _
      cases hg : (evCoC js ks y P cf it n).fr l with
      | some f =>
        rw [hg] at gy
        obtain ⟨rest, h1, h2⟩ := gy
        exact ⟨rest, by simp [findLabel, gx, h1], h2⟩
      | none =>
        rw [hg] at gy
        have gy : findLabel y l = Option.none := gy
        show findLabel (.seq x y) l = Option.none
        simp [findLabel, gx, gy]
  | .cond k x y, hR => by
    obtain ⟨hR1, hR2⟩ := Bool.and_eq_true_iff.1 (show (codeRegs x && codeRegs y) = true from hR)
    have hx := (evCoC_ok hM hcf js ks it x hR1).1
    have hy := (evCoC_ok hM hcf js ks it y hR2).1
    refine ⟨CodeOK.join (ev := fun env => (condV (opd k env)).thn fun b => (Bool.rec ((evCoC js ks y P cf it n).run env) ((evCoC js ks x P cf it n).run env) b : M XE)) ?_ ks, FrOK.none fun _ => rfl⟩
    intro c m m' w p q env r a hρ hm hp he h Q hQ
    obtain ⟨b, p1, h1, h2⟩ := R.gives_thn h
    obtain ⟨h3, h4⟩ := condV_gives hp (opd_ok he k) h1
    cases b with
    | false => exact wp_cond_false h4 (hy hρ hm h3 he h2 Q hQ)
    | true => exact wp_cond_true h4 (hx hρ hm h3 he h2 Q hQ)
  | .block id x, hR => by
    have hx := (evCoC_ok hM hcf js ks it x hR).1
    refine ⟨CodeOK.join (ev := fun env => ((evCoC js ks x P cf it n).run env).bnd (blockX id)) ?_ ks, FrOK.none fun _ => rfl⟩
    intro c m m' w p q env r a hρ hm hp he h Q hQ
    obtain ⟨r0, m1, p1, h1, h2⟩ := M.gives_bnd h
    refine wp_block (hx hρ hm hp he h1 _ fun a1 w1 hp1 hA => ?_)
    obtain ⟨z, env1⟩ := r0
    cases z with
    | normal =>
      obtain ⟨rfl, rfl, rfl⟩ := M.gives_pure (show (M.pure (⟨.normal, env1⟩ : XE)).gives c.ρ m1 p1 r m' q from h2)
      exact hQ a1 w1 hp1 hA
    | ret =>
      obtain ⟨rfl, rfl, rfl⟩ := M.gives_pure (show (M.pure (⟨.ret, env1⟩ : XE)).gives c.ρ m1 p1 r m' q from h2)
      exact hQ a1 w1 hp1 hA
    | goto l =>
      obtain ⟨rfl, rfl, rfl⟩ := M.gives_pure (show (M.pure (⟨.goto l, env1⟩ : XE)).gives c.ρ m1 p1 r m' q from h2)
      exact hQ a1 w1 hp1 hA
    | exit i =>
      obtain ⟨rfl, rfl, rfl⟩ := M.gives_pure (show (M.pure (⟨selB (Nat.beq i id) .normal (.exit i), env1⟩ : XE)).gives c.ρ m1 p1 r m' q from h2)
      have hq := hQ a1 w1 hp1 hA
      show Exit.inBlock id Q (.exit i) a1 w1
      cases hb : Nat.beq i id with
      | true =>
        rw [hb] at hq
        rw [beq_iff] at hb; subst hb
        simp only [Exit.inBlock, if_true]; exact hq
      | false =>
        rw [hb] at hq
        rw [beq_false] at hb
        simp only [Exit.inBlock, if_neg hb]; exact hq
  | .loop x, hR => by
    have hx := (evCoC_ok hM hcf js ks it x hR).1
    refine ⟨?_, FrOK.none fun _ => rfl⟩
    intro c m m' w p q env r a hρ hm hp he h Q hQ
    obtain ⟨r0, m1, p1, h1, h2⟩ := M.gives_bnd (show ((iter (fun env => joinXM ks ((evCoC js ks x P cf it n).run env)) it env).bnd loopX).gives c.ρ m p r m' q from h)
    refine RoundWp.loop (iter_ok (hx.join ks) it hρ hm hp he h1 Q fun a1 w1 hp1 hA => ?_)
    obtain ⟨z, env1⟩ := r0
    cases z with
    | none => exact (M.gives_fail (s := "loop more rounds") h2).elim
    | some z =>
      obtain ⟨rfl, rfl, rfl⟩ := M.gives_pure (show (M.pure (⟨z, env1⟩ : XE)).gives c.ρ m1 p1 r m' q from h2)
      exact hQ a1 w1 hp1 hA
  | .scope x, hR => by
    obtain ⟨hx, fx⟩ := evCoC_ok hM hcf js ks it x hR
    refine ⟨?_, FrOK.none fun _ => rfl⟩
    intro c m m' w p q env r a hρ hm hp he h Q hQ
    obtain ⟨r0, m1, p1, h1, h2⟩ := M.gives_bnd (show (((evCoC js ks x P cf it n).run env).bnd (scopeX (evCoC js ks x P cf it n).fr 6)).gives c.ρ m p r m' q from h)
    exact ScopeWp.scope (ScopeWp.of_wp (hx hρ hm hp he h1 _ fun a1 w1 hp1 hA => scopeX_ok fx 6 hρ hp1 hA h2 Q hQ))
  | .region id ops d, hR => evC_ok hM hcf it (.region id ops d) hR
  | .rangeFunc _ _ _ _, _ => ⟨by intro c m m' w p q env r a hρ hm hp he h; exact (M.gives_fail (s := "code") h).elim, FrOK.none fun _ => rfl⟩
  | .refuse _, _ => ⟨by intro c m m' w p q env r a hρ hm hp he h; exact (M.gives_fail (s := "code") h).elim, FrOK.none fun _ => rfl⟩

theorem evCo_ok (hM : P.follows .mixedOrders = true) {cf : FuncId → List V → M V} (hcf : CallsOK P ρ cf) (js : List (Nat × List Nat)) (ks : List Nat) (it : Nat) (code : Code) (hR : codeRegs code = true) : CodeOK P ρ n code (evCo js ks code P cf it n) := (evCoC_ok hM hcf js ks it code hR).1

theorem evOneC_ok (hP : Plain P) (js : List (Nat × List Nat)) (ks : List Nat) (it : Nat) {cf : FuncId → List V → M V} (hcf : CallsOK P ρ cf) (f : FuncId) : FnOK P ρ f (evOneC js ks P cf it f) := by
    intro l c m m' w p q v args hρ hm hp hg hl h
    have h : (Option.rec (M.fail "no such function") (fun fn => (Option.rec (M.fail fn.name) (fun co => (evCo js ks co P cf it (slots fn.ntmps l) (setArgs l 0 env0)).bnd (endX P fn)) fn.body : M V)) P.funcs[f]? : M V).gives c.ρ m p v m' q := h
    cases hf : P.funcs[f]? with
    | none => rw [hf] at h; exact (M.gives_fail (s := "no such function") h).elim
    | some fn =>
      rw [hf] at h
      have h : (Option.rec (M.fail fn.name) (fun co => (evCo js ks co P cf it (slots fn.ntmps l) (setArgs l 0 env0)).bnd (endX P fn)) fn.body : M V).gives c.ρ m p v m' q := h
      cases hb : fn.body with
      | none => rw [hb] at h; exact (M.gives_fail (s := fn.name) h).elim
      | some co =>
        rw [hb] at h
        obtain ⟨r, m1, p1, h1, h2⟩ := M.gives_bnd (show ((evCo js ks co P cf it (slots fn.ntmps l) (setArgs l 0 env0)).bnd (endX P fn)).gives c.ρ m p v m' q from h)
        refine ⟨⟨fn, hf, by rw [hb]; rfl, by have := hP.fns f fn hf; simp [goodFn] at this; simpa using this.1⟩, calls_of_wp hf hb ?_⟩
        have hR : codeRegs co = true := by have := hP.fns f fn hf; simp [goodFn, hb] at this; exact this.2
        refine evCo_ok hP.mixed hcf js ks it co hR hρ hm hp (env_ok hg fn.ntmps hl) h1 _ fun a w' hq hA => ?_
        obtain ⟨c1, s1, he1, hd⟩ := hA
        obtain ⟨x, env1⟩ := r
        have hr := s1.le.ρ
        have key : (∀ id, x ≠ .exit id ∧ x ≠ .goto id) → ((resV fn.results.toList P env1).thn fun l => M.pure (oneV l)).gives c.ρ m1 p1 v m' q →
            a.defers = [] ∧ ∃ y, (results fn a.tmps).run P w' = .ok y w' ∧ ∃ c' z, Ending.returned y = .returned z ∧ Step c m w c' m' w' ∧ VR c' v z ∧ PcR c.ρ q := by
          intro _ h3
          obtain ⟨rs, p2, h4, h5⟩ := R.gives_thn h3
          rw [← hr] at h4
          obtain ⟨rfl, z, h6, h7⟩ := results_ok s1.rel he1 (by rw [hr]; exact hq) h4
          obtain ⟨rfl, rfl, rfl⟩ := M.gives_pure h5
          exact ⟨hd, z, h6, c1, z, rfl, s1, h7, hq⟩
        cases x with
        | exit id => exact (M.gives_fail (s := "an exit") h2).elim
        | goto l => exact (M.gives_fail (s := "a goto") h2).elim
        | normal => exact key (fun _ => ⟨nofun, nofun⟩) h2
        | ret => exact key (fun _ => ⟨nofun, nofun⟩) h2

theorem kwCo_ok (hP : Plain P) {cf : FuncId → List V → M V} (hcf : CallsOK P ρ cf) {it : Nat} {f : FuncId} {js : List (Nat × List Nat)} {ks : List Nat} {r : Kw} (hr : KwOK P ρ r) : KwOK P ρ (kwCo P cf it f js ks r) := by
  intro g tr h ev hev
  have h : selB (Nat.beq g f) (some fun _ => evOneC js ks P cf it f) (r g) = some tr := h
  cases hb : Nat.beq g f with
  | true =>
    rw [hb] at h
    have h := Option.some.inj (show (some fun _ => evOneC js ks P cf it f) = some tr from h)
    subst h
    rw [beq_iff] at hb
    subst hb
    exact evOneC_ok hP js ks it hcf g
  | false => rw [hb] at h; exact hr g tr h ev hev
end ops

end Go.Sy

/-
  What is proved here: a function of one byte, as a table.
  Conditions: none.
-/
namespace Go.Sy
open Go.RowKit (Below)

/-- the run at the number i gives the table's number -/
noncomputable def tabAt (k : IntKind) (l : List Int) (ev : List V → M V) (i : Nat) : Bool := (T.rec (motive := fun _ => Bool) (fun r => onInt r.v (fun k' e => andB (Nat.beq (kindNo k) (kindNo k')) (onN e (fun z => eqZ z (nthZ l i)) false)) false) (fun _ _ _ _ _ => false) (fun _ => false) (ev [.int .u8 (.n (.ofNat i))] (mem0 []) pc0))

noncomputable def tabAll (k : IntKind) (l : List Int) (ev : List V → M V) (n : Nat) : Bool := (Nat.rec (motive := fun _ => Bool) (true) (fun i ih => (Bool.rec (motive := fun _ => Bool) (false) (ih) (tabAt k l ev i))) (n))

noncomputable def inRng (lo hi : Int) (l : List Int) : Bool := allL (fun z => andB (leZ lo z) (leZ z hi)) l

noncomputable def knTab (k : IntKind) (l : List Int) (lo hi : Int) (args : List V) : M V := (List.rec (motive := fun _ => M V) (M.fail "arguments") (fun v r _ => (List.rec (motive := fun _ => M V) (onInt v (fun k' e => selB (Nat.beq (kindNo k') 4) (M.pure (.int k (.tab l lo hi e))) (M.fail "arguments")) (M.fail "arguments")) (fun _ _ _ => M.fail "arguments") (r))) (args))

noncomputable def kwTab (f : FuncId) (k : IntKind) (l : List Int) (lo hi : Int) (r : Kw) : Kw := fun i => selB (Nat.beq i f) (some fun _ => knTab k l lo hi) (r i)

theorem tabAll_ok {k : IntKind} {l : List Int} {ev : List V → M V} : ∀ {n : Nat}, tabAll k l ev n = true → ∀ i, i < n → tabAt k l ev i = true
  | n + 1, h, i, hi => by
    have h : (Bool.rec false (tabAll k l ev n) (tabAt k l ev n) : Bool) = true := h
    cases ht : tabAt k l ev n with
    | false => rw [ht] at h; simp at h
    | true =>
      rw [ht] at h
      by_cases hin : i = n
      · subst hin; exact ht
      · exact tabAll_ok h i (by omega)

theorem nthZ_in {lo hi : Int} : ∀ {l : List Int} {i : Nat}, inRng lo hi l = true → i < l.length → lo ≤ nthZ l i ∧ nthZ l i ≤ hi
  | a :: l, 0, h, _ => by
    have := allL_ok h a (.head _)
    obtain ⟨h1, h2⟩ := andB_ok this
    rw [leZ_iff] at h1 h2
    exact ⟨h1, h2⟩
  | a :: l, i + 1, h, hi' => nthZ_in (l := l) (i := i) (by
      have h : (Bool.rec false (inRng lo hi l) (andB (leZ lo a) (leZ a hi)) : Bool) = true := h
      cases hb : andB (leZ lo a) (leZ a hi) with
      | false => rw [hb] at h; simp at h
      | true => rw [hb] at h; exact h) (by simpa using hi')

theorem tab_calls {P : Program} (hP : Plain P) {it d : Nat} {f : FuncId} {k : IntKind} {l : List Int} (h : tabAll k l (evFn P kw0 it d f) 256 = true) (w : World) {i : Nat} (hi : i < 256) :
    Calls P f #[.int .u8 (i : Int)] w fun e w' => e = .returned (.int k (nthZ l i)) ∧ Below w.heap.size w w' := by
  have ht := tabAll_ok h i hi
  unfold tabAt at ht
  cases hr : evFn P kw0 it d f [.int .u8 (.n (.ofNat i))] (mem0 []) pc0 with
  | br => rw [hr] at ht; exact absurd (show false = true from ht) (by simp)
  | fail => rw [hr] at ht; exact absurd (show false = true from ht) (by simp)
  | ret r =>
    rw [hr] at ht
    have ht : onInt r.v (fun k' e => andB (Nat.beq (kindNo k) (kindNo k')) (onN e (fun z => eqZ z (nthZ l i)) false)) false = true := ht
    obtain ⟨v, m, q⟩ := r
    rcases onInt_cases v (fun k' e => andB (Nat.beq (kindNo k) (kindNo k')) (onN e (fun z => eqZ z (nthZ l i)) false)) false with ⟨k', e, rfl, he⟩ | he <;> rw [he] at ht
    · obtain ⟨h1, h2⟩ := andB_ok ht
      have := kindNo_inj h1
      subst this
      cases e with
      | n z =>
        have h2 : z = nthZ l i := (eqZ_iff _ _).1 (show eqZ z (nthZ l i) = true from h2)
        have ho : (evFn P kw0 it d f [.int .u8 (.n (.ofNat i))] (mem0 []) pc0).out (fun _ => 0) = some ⟨.int k (.n z), m, q⟩ := by rw [hr]; rfl
        have hv : VRs (cx0 fun _ => 0) [.int .u8 (.n (.ofNat i))] (#[Value.int .u8 (i : Int)]).toList :=
          VRs.cons (VR.int.2 ⟨rfl, by show kMin .u8 ≤ (i : Int); simp [kMin, IntKind.signed], by show (i : Int) ≤ kMax .u8; simp [kMax, limN]; omega⟩) VRs.nil
        refine (evFn_ok hP kw0_ok it d f _ (cx0 fun _ => 0) _ m w pc0 q _ _ rfl (mem0_ok fun x hx => by simp at hx) pc0_ok glob0 hv ho).2.mono fun e w' hR => ?_
        obtain ⟨c', y, rfl, s, hz, _⟩ := hR
        rw [VR.int] at hz
        rw [hz.1]
        exact ⟨by show Ending.returned (.int k z) = _; rw [h2], s.below mem0_wr⟩
      | _ => exact absurd (show false = true from h2) (by simp)
    · simp at ht

theorem kwTab_ok {P : Program} (hP : Plain P) {ρ : Nat → Int} {it d : Nat} {f : FuncId} {k : IntKind} {l : List Int} {lo hi : Int} {r : Kw} (hf : Callable P f) (hr : KwOK P ρ r) (h : tabAll k l (evFn P kw0 it d f) 256 = true)
    (hl : (Nat.beq l.length 256 && inRng lo hi l && leZ (kMin k) lo && leZ hi (kMax k)) = true) : KwOK P ρ (kwTab f k l lo hi r) := by
  intro i tr hs ev hev args' c m m' w p q v args hc hm hp hg hla hk
  have hs : selB (Nat.beq i f) (some fun _ => knTab k l lo hi) (r i) = some tr := hs
  cases hi' : Nat.beq i f with
  | false =>
    rw [hi'] at hs
    exact hr i tr hs ev hev args' c m m' w p q v args hc hm hp hg hla hk
  | true =>
    rw [hi'] at hs
    have hs : (some fun _ => knTab k l lo hi) = some tr := hs
    simp at hs; subst hs
    rw [beq_iff] at hi'; subst hi'
    simp only [Bool.and_eq_true, leZ_iff, beq_iff] at hl
    obtain ⟨⟨⟨l1, l2⟩, l3⟩, l4⟩ := hl
    cases args' with
    | nil => exact (M.gives_fail (s := "arguments") hk).elim
    | cons x t =>
      cases t with
      | cons y t => exact (M.gives_fail (s := "arguments") hk).elim
      | nil =>
        have hk : (onInt x (fun k' e => selB (Nat.beq (kindNo k') 4) (M.pure (V.int k (.tab l lo hi e))) (M.fail "arguments")) (M.fail "arguments")).gives c.ρ m p v m' q := hk
        obtain ⟨k', e, rfl, h1⟩ := onIntM_gives hk
        obtain ⟨h2, h3⟩ := M.gives_if h1
        obtain ⟨rfl, rfl, rfl⟩ := M.gives_pure h3
        have hk4 : k' = .u8 := kindNo_inj (k' := .u8) h2
        subst hk4
        obtain ⟨X, ys, he, hx, hys⟩ := VRs.cons_iff.1 hla
        rw [VRs.nil_iff] at hys; subst hys
        obtain ⟨rfl, b1, b2⟩ := VR.int.1 hx
        have b1 : 0 ≤ e.den c.ρ := by simpa [kMin, IntKind.signed] using b1
        have b2 : e.den c.ρ ≤ 255 := by simpa [kMax, limN] using b2
        obtain ⟨j, hj⟩ := Int.eq_ofNat_of_zero_le b1
        have hargs : args = #[.int .u8 (j : Int)] := by
          rw [hj] at he
          apply Array.ext'
          simpa using he
        subst hargs
        have hjl : j < l.length := by omega
        obtain ⟨z1, z2⟩ := nthZ_in l2 hjl
        refine ⟨hf, (tab_calls hP h w (i := j) (by omega)).mono fun e' w' hR => ?_⟩
        obtain ⟨rfl, hb⟩ := hR
        have hden : (E.tab l lo hi e).den c.ρ = nthZ l j := by
          show clampZ lo hi (nthZ l (e.den c.ρ).toNat) = _
          rw [hj, Int.toNat_natCast]; exact clampZ_eq z1 z2
        exact ⟨c, _, rfl, Step.of_below hm hb, VR.int.2 ⟨by rw [hden], by rw [hden]; omega, by rw [hden]; omega⟩, hp⟩

end Go.Sy

/-
  What is proved here: a law's code in pieces: from a state of the evaluator on through a piece, and through a loop with an invariant.
  Conditions: none.
-/
namespace Go.Sy
open Go.RowKit (Below)

/-- the frame is in the evaluator's state (m, env, p), its variables being such that 'J'; what was there at 'W0' is as it was -/
def At (W0 : World) (J : (Nat → Int) → Prop) (m : Mem) (n : Nat) (env : Env) (p : Pc) (a : Act) (w : World) : Prop :=
  ∃ c : Cx, J c.ρ ∧ MemR c m w ∧ PcR c.ρ p ∧ EnvR c n env a ∧ a.defers = [] ∧ Below W0.heap.size W0 w ∧ ∀ b, Wr c m b → W0.heap.size ≤ b

theorem below_step {W0 w w' : World} {c c' : Cx} {m m' : Mem} (hb : Below W0.heap.size W0 w) (hw : ∀ b, Wr c m b → W0.heap.size ≤ b) (s : Step c m w c' m' w') : Below W0.heap.size W0 w' ∧ ∀ b, Wr c' m' b → W0.heap.size ≤ b :=
  ⟨hb.trans ⟨s.os, s.tape, s.output, s.size, fun k hk => s.frame k (Nat.lt_of_lt_of_le hk hb.size) fun h => by have := hw k h; omega⟩,
   fun b h => (s.wr b h).elim (hw b) (fun h => Nat.le_trans hb.size h)⟩

section piece
variable {P : Program} {cf : FuncId → List V → M V} {W0 : World} {J : (Nat → Int) → Prop} {m : Mem} {n : Nat} {env : Env} {p : Pc} {a : Act} {w : World} {Q : Exit → Act → World → Prop}

/-- a piece of code -/
theorem piece_ok (hM : P.follows .mixedOrders = true) (hcf : ∀ ρ, CallsOK P ρ cf) {co : Code} (hR : codeRegs co = true) {it : Nat} (hA : At W0 J m n env p a w)
    (h : ∀ ρ, J ρ → PcR ρ p → ∃ r m' q, (evCode co P cf it n env m p).out ρ = some ⟨r, m', q⟩ ∧ ∀ a' w', At W0 (fun ρ' => ρ' = ρ) m' n r.env q a' w' → Q (exitOf r.x) a' w') : co.wp P Q a w := by
  obtain ⟨c, hJ, hm, hp, he, hd, hb, hw⟩ := hA
  obtain ⟨r, m', q, ho, hq⟩ := h c.ρ hJ hp
  refine evCode_ok hM (hcf c.ρ) it co hR rfl hm hp he ho Q fun a' w' hpq hAf => ?_
  obtain ⟨c', s, he', hd'⟩ := hAf
  obtain ⟨h1, h2⟩ := below_step hb hw s
  exact hq a' w' ⟨c', s.le.ρ, s.rel, by rw [s.le.ρ]; exact hpq, he', hd'.trans hd, h1, h2⟩

/-- into a pattern -/
theorem fit_ok {pt : Pt} {env' : Env} {m' : Mem} {q p0 : Pc} {ρ : Nat → Int} {s : List G} (hA : At W0 (fun ρ' => ρ' = ρ) m' n env' q a w) (hf : fitSt pt env m env' m' = some s)
    (hJ : PcR ρ q → PcR (sub pt.base s ρ) p0 ∧ J (sub pt.base s ρ)) : At W0 J (genMem pt m) n (genEnv pt env) p0 a w := by
  obtain ⟨c, rfl, hm, hp, he, hd, hb, hw⟩ := hA
  obtain ⟨_, h1, h2, h3⟩ := fitSt_ok hf hm he
  obtain ⟨h4, h5⟩ := hJ hp
  exact ⟨_, h5, h1, h4, h2, hd, hb, fun b h => hw b (h3 b h)⟩

theorem At.mono {J' : (Nat → Int) → Prop} (h : At W0 J m n env p a w) (hJ : ∀ ρ, J ρ → PcR ρ p → J' ρ) : At W0 J' m n env p a w := by
  obtain ⟨c, h1, h2, h3, h4⟩ := h
  exact ⟨c, hJ _ h1 h3, h2, h3, h4⟩

/-- a loop -/
theorem loop_ok (hM : P.follows .mixedOrders = true) (hcf : ∀ ρ, CallsOK P ρ cf) {co : Code} (hR : codeRegs co = true) {it : Nat} (μ : (Nat → Int) → Nat)
    (h : ∀ ρ, J ρ → PcR ρ p → ∃ r m' q, (evCode co P cf it n env m p).out ρ = some ⟨r, m', q⟩ ∧ ∀ a' w', At W0 (fun ρ' => ρ' = ρ) m' n r.env q a' w' →
      match r.x with
      | .normal => At W0 (fun ρ' => J ρ' ∧ μ ρ' < μ ρ) m n env p a' w'
      | x => Q (exitOf x) a' w')
    (hA : At W0 J m n env p a w) : (Code.loop co).wp P Q a w := by
  refine RoundWp.loop ?_
  have key : ∀ k a w, At W0 (fun ρ => J ρ ∧ μ ρ < k) m n env p a w → RoundWp P co Q a w := by
    intro k
    induction k with
    | zero =>
      intro a w hA
      obtain ⟨c, hJ, _⟩ := hA
      exact absurd hJ.2 (by omega)
    | succ k ih =>
      intro a w hA
      refine RoundWp.round (piece_ok (it := it) hM hcf hR hA fun ρ hJ hp => ?_)
      obtain ⟨r, m', q, ho, hq⟩ := h ρ hJ.1 hp
      refine ⟨r, m', q, ho, fun a' w' hA' => ?_⟩
      have := hq a' w' hA'
      obtain ⟨x, e'⟩ := r
      cases x with
      | normal => exact ih a' w' (this.mono fun ρ' hJ' _ => ⟨hJ'.1, by have := hJ'.2; have := hJ.2; omega⟩)
      | exit id => exact this
      | ret => exact this
      | goto l => exact this
  obtain ⟨c, hJ, hrest⟩ := hA
  exact key (μ c.ρ + 1) a w ⟨c, ⟨hJ, by omega⟩, hrest⟩
end piece

/-! ### what is left to show, leaf by leaf -/

/-- a leaf: the path, what it must do, and with what -/
structure Vc where
  q : Pc
  tag : Nat
  s : List G

abbrev Tgt : Type := X → Env → Mem → Option (Nat × List G)

noncomputable def vcs (tgt : Tgt) (t : T (Rs XE)) : Option (List Vc) := (T.rec (motive := fun _ => Option (List Vc)) (fun r => onXE r.v fun x env => (Option.rec (motive := fun _ => Option (List Vc)) (none) (fun g => some [⟨r.p, g.1, g.2⟩]) (tgt x env r.m))) (fun _ _ _ ix iy => (Option.rec (motive := fun _ => Option (List Vc)) (none) (fun a => (Option.rec (motive := fun _ => Option (List Vc)) (none) (fun b => some (a ++ b)) (iy))) (ix))) (fun _ => none) (t))

theorem vcs_out {tgt : Tgt} (ρ : Nat → Int) : ∀ {t : T (Rs XE)} {l : List Vc}, vcs tgt t = some l → ∃ r m q tag s, t.out ρ = some ⟨r, m, q⟩ ∧ tgt r.x r.env m = some (tag, s) ∧ ⟨q, tag, s⟩ ∈ l
  | .ret ⟨⟨x, env⟩, m, q⟩, l, h => by
    have h : (Option.rec none (fun g => some [⟨q, g.1, g.2⟩]) (tgt x env m) : Option (List Vc)) = some l := h
    cases ht : tgt x env m with
    | none => rw [ht] at h; exact absurd h (by simp)
    | some g =>
      rw [ht] at h
      have h : some [(⟨q, g.1, g.2⟩ : Vc)] = some l := h
      simp at h; subst h
      exact ⟨⟨x, env⟩, m, q, g.1, g.2, rfl, ht, .head _⟩
  | .br c x y, l, h => by
    have h : (Option.rec none (fun a => Option.rec none (fun b => some (a ++ b)) (vcs tgt y)) (vcs tgt x) : Option (List Vc)) = some l := h
    cases hx : vcs tgt x with
    | none => rw [hx] at h; exact absurd h (by simp)
    | some la =>
      rw [hx] at h
      cases hy : vcs tgt y with
      | none => rw [hy] at h; exact absurd (show none = some l from h) (by simp)
      | some lb =>
        rw [hy] at h
        have h : some (la ++ lb) = some l := h
        simp at h; subst h
        simp only [T.out]
        cases c.den ρ with
        | true =>
          obtain ⟨r, m, q, tag, s, h1, h2, h3⟩ := vcs_out ρ hx
          exact ⟨r, m, q, tag, s, by simpa using h1, h2, List.mem_append_left _ h3⟩
        | false =>
          obtain ⟨r, m, q, tag, s, h1, h2, h3⟩ := vcs_out ρ hy
          exact ⟨r, m, q, tag, s, by simpa using h1, h2, List.mem_append_right _ h3⟩
  | .fail _, l, h => absurd (show none = some l from h) (by simp)

/-- the value returned: a bool in a slot -/
noncomputable def boolAt (env : Env) (t : Nat) : Option (Nat × List G) := onBool (env t) (fun b => some (9, [.ofB b])) none

/-- the law returns: its slot t holds true -/
theorem ret_ok {P : Program} {fn : Func} {t : Nat} (hr : fn.results = #[.tmp t]) {W0 : World} {m : Mem} {n : Nat} {env : Env} {q : Pc} {a : Act} {w : World} {ρ : Nat → Int} {tag : Nat} {s : List G} {x : X} (hx : x = .ret ∨ x = .normal)
    (hA : At W0 (fun ρ' => ρ' = ρ) m n env q a w) (hb : boolAt env t = some (tag, s)) (hv : PcR ρ q → ∀ g ∈ s, g.den ρ = 1) : bodyPost P fn (fun e w' => e = .returned (.bool true) ∧ Below W0.heap.size W0 w') (exitOf x) a w := by
  obtain ⟨c, rfl, hm, hp, he, hd, hbl, _⟩ := hA
  rcases onBool_cases (env t) (fun b => some (9, [G.ofB b])) none with ⟨b, e, hb'⟩ | hb'
  · have hb : some (9, [G.ofB b]) = some (tag, s) := by rw [← hb']; exact hb
    simp at hb
    obtain ⟨_, rfl⟩ := hb
    have h1 := hv hp (.ofB b) (.head _)
    have h2 : b.den c.ρ = true := by
      cases hb2 : b.den c.ρ with
      | true => rfl
      | false => simp [G.den, hb2] at h1
    have hs := he.slot t
    rw [e, VR.bool, h2] at hs
    have key : a.defers = [] ∧ ∃ v, (results fn a.tmps).run P w = .ok v w ∧ (Ending.returned v = .returned (.bool true) ∧ Below W0.heap.size W0 w) :=
      ⟨hd, _, results_tmp hr a.tmps P w, by rw [hs], hbl⟩
    rcases hx with rfl | rfl <;> exact key
  · have hb : none = some (tag, s) := by rw [← hb']; exact hb
    exact absurd hb (by simp)

/-- the law's call, out of its code -/
theorem law_code {P : Program} {f : FuncId} {fn : Func} {co : Code} {g : List (Nat × List V)} {shs : List Sh} (hsh : fn.params.toList.mapM (shapeOf P) = some shs) (hf : P.funcs[f]? = some fn) (hb : fn.body = some co)
    {H : Type} {enc : TypeId × Value → H} {W : World} {base : Nat} {args : Array Value} {ds : List (DataW H)} {ps : List MemPlace} (hval : ∀ (j : Nat) t v, fn.params[j]? = some t → args[j]? = some v → Value.okWide P W .any base t v)
    (hA : DataW.TrodAll enc P W 0 (fun _ => true) true fn.params.toList args.toList ds ps) (hw : ∀ ρ : Nat → Int, ∀ x ∈ g, x.1 < 4096 ∧ BlkR (cx0 ρ) W (x.1, 0) (.cells x.2 false false none))
    (h : ∀ a w, At W (fun _ => True) (mem0 g) (slots fn.ntmps (argsV shs 0)) (setArgs (argsV shs 0) 0 env0) ⟨[], argsRng shs⟩ a w → co.wp P (bodyPost P fn (LawEnd W)) a w) : Calls P f args W (LawEnd W) := by
  obtain ⟨cells, h1, h2⟩ := args_open hA (fun j t v ht hv => hval j t v (by simpa using ht) (by simpa using hv)) hsh
  let ρ : Nat → Int := fun j => valOf (cells.getD j undef)
  have h3 : VRs (cx0 ρ) (argsV shs 0) args.toList := h2 (cx0 ρ) 0 fun j _ => by show valOf (cells.getD (0 + j) undef) = _; rw [Nat.zero_add]
  have hp : PcR ρ ⟨[], argsRng shs⟩ := ⟨fun c hc => by simp at hc, fun i lo hi hr => by
    have hr : (argsRng shs)[i]? = some (lo, hi) := hr
    rw [argsRng_eq] at hr
    exact rng_open h1 i lo hi hr⟩
  refine calls_of_wp hf hb (h _ _ ⟨cx0 ρ, trivial, mem0_ok (hw ρ), hp, env_ok glob0 fn.ntmps h3, rfl, Below.refl _ _, fun b hb => absurd hb (mem0_wr b)⟩)

end Go.Sy

/-
  What is proved here: a code up to a place inside it.
  Conditions: none.
-/
namespace Go.Sy
open Go.RowKit (Below)

/-- a step into a code: the first, or the second of two; into a block -/
inductive Dir where
  | l
  | r
  | b

def cL : Code → Code
  | .seq a _ => a
  | _ => .skip
def cR : Code → Code
  | .seq _ b => b
  | _ => .skip
def cB : Code → Code
  | .block _ a => a
  | _ => .skip
def cId : Code → Nat
  | .block id _ => id
  | _ => 0
def cLoop : Code → Code
  | .loop a => a
  | _ => .skip
def isSeq : Code → Bool
  | .seq _ _ => true
  | _ => false
def isBlock : Code → Bool
  | .block _ _ => true
  | _ => false

/-- the place -/
def place : List Dir → Code → Code
  | [], c => c
  | .l :: d, c => place d (cL c)
  | .r :: d, c => place d (cR c)
  | .b :: d, c => place d (cB c)

/-- what is asked at the place -/
def placeWp (P : Program) : List Dir → Code → (Exit → Act → World → Prop) → Act → World → Prop
  | [], c, Q => c.wp P Q
  | .l :: d, c, Q => placeWp P d (cL c) (Exit.then ((cR c).wp P Q) Q)
  | .r :: d, c, Q => placeWp P d (cR c) Q
  | .b :: d, c, Q => placeWp P d (cB c) (Exit.inBlock (cId c) Q)

/-- up to the place: 'none': there -/
noncomputable def evPath (P : Program) (cf : FuncId → List V → M V) (it n : Nat) : List Dir → Code → Env → M XO
  | [], _, env => M.pure ⟨none, env⟩
  | .l :: d, c, env => selB (isSeq c) ((evPath P cf it n d (cL c) env).bnd fun r => onXO r fun x _ => (Option.rec (motive := fun _ => M XO) (M.pure r) (fun x => (X.rec (motive := fun _ => M XO) (M.fail "past the place") (fun _ => M.pure r) (M.pure r) (fun _ => M.pure r) (x))) (x))) (M.fail "no such place")
  | .r :: d, c, env => selB (isSeq c) ((evCode (cL c) P cf it n env).bnd fun r => onXE r fun x e => (X.rec (motive := fun _ => M XO) (evPath P cf it n d (cR c) e) (fun _ => M.pure ⟨some x, e⟩) (M.pure ⟨some x, e⟩) (fun _ => M.pure ⟨some x, e⟩) (x))) (M.fail "no such place")
  | .b :: d, c, env => selB (isBlock c) ((evPath P cf it n d (cB c) env).bnd fun r => onXO r fun x _ => (Option.rec (motive := fun _ => M XO) (M.pure r) (fun x => (X.rec (motive := fun _ => M XO) (M.fail "past the place") (fun i => selB (Nat.beq i (cId c)) (M.fail "past the place") (M.pure r)) (M.pure r) (fun _ => M.pure r) (x))) (x))) (M.fail "no such place")

theorem path_ok {P : Program} {ρ : Nat → Int} (hM : P.follows .mixedOrders = true) {cf : FuncId → List V → M V} (hcf : CallsOK P ρ cf) (it n : Nat) : ∀ (d : List Dir) (co : Code), codeRegs co = true →
    ∀ {c : Cx} {m m' : Mem} {w : World} {p q : Pc} {env : Env} {r : XO} {a : Act}, c.ρ = ρ → MemR c m w → PcR c.ρ p → EnvR c n env a → (evPath P cf it n d co env).gives c.ρ m p r m' q →
    ∀ (Q : Exit → Act → World → Prop), (∀ a' w', PcR c.ρ q → After c m w m' n r.env a a' w' → match r.x with | none => placeWp P d co Q a' w' | some x => Q (exitOf x) a' w') → co.wp P Q a w
  | [], co, _, c, m, m', w, p, q, env, r, a, hρ, hm, hp, he, h, Q, hQ => by
    obtain ⟨rfl, rfl, rfl⟩ := M.gives_pure (show (M.pure (⟨none, env⟩ : XO)).gives c.ρ m p r m' q from h)
    exact hQ a w hp ⟨c, Step.refl hm, he, rfl⟩
  | .l :: d, co, hR, c, m, m', w, p, q, env, r, a, hρ, hm, hp, he, h, Q, hQ => by
    obtain ⟨h1, h2⟩ := M.gives_if (show (selB (isSeq co) ((evPath P cf it n d (cL co) env).bnd fun r => onXO r fun x _ => (Option.rec (M.pure r) (fun x => X.rec (M.fail "past the place") (fun _ => M.pure r) (M.pure r) (fun _ => M.pure r) x) x : M XO)) (M.fail "no such place")).gives c.ρ m p r m' q from h)
    cases co <;> try exact (Bool.false_ne_true h1).elim
    rename_i x y
    obtain ⟨hR1, _⟩ := Bool.and_eq_true_iff.1 (show (codeRegs x && codeRegs y) = true from hR)
    obtain ⟨r0, m1, p1, h3, h4⟩ := M.gives_bnd h2
    refine wp_seq (path_ok hM hcf it n d x hR1 hρ hm hp he h3 _ fun a1 w1 hp1 hA => ?_)
    obtain ⟨z, env1⟩ := r0
    cases z with
    | none =>
      obtain ⟨rfl, rfl, rfl⟩ := M.gives_pure (show (M.pure (⟨none, env1⟩ : XO)).gives c.ρ m1 p1 r m' q from h4)
      exact hQ a1 w1 hp1 hA
    | some z =>
      cases z with
      | normal => exact (M.gives_fail (s := "past the place") h4).elim
      | exit i =>
        obtain ⟨rfl, rfl, rfl⟩ := M.gives_pure (show (M.pure (⟨some (.exit i), env1⟩ : XO)).gives c.ρ m1 p1 r m' q from h4)
        exact hQ a1 w1 hp1 hA
      | ret =>
        obtain ⟨rfl, rfl, rfl⟩ := M.gives_pure (show (M.pure (⟨some .ret, env1⟩ : XO)).gives c.ρ m1 p1 r m' q from h4)
        exact hQ a1 w1 hp1 hA
      | goto l =>
        obtain ⟨rfl, rfl, rfl⟩ := M.gives_pure (show (M.pure (⟨some (.goto l), env1⟩ : XO)).gives c.ρ m1 p1 r m' q from h4)
        exact hQ a1 w1 hp1 hA
  | .r :: d, co, hR, c, m, m', w, p, q, env, r, a, hρ, hm, hp, he, h, Q, hQ => by
    obtain ⟨h1, h2⟩ := M.gives_if (show (selB (isSeq co) ((evCode (cL co) P cf it n env).bnd fun r => onXE r fun x e => (X.rec (evPath P cf it n d (cR co) e) (fun _ => M.pure ⟨some x, e⟩) (M.pure ⟨some x, e⟩) (fun _ => M.pure ⟨some x, e⟩) x : M XO)) (M.fail "no such place")).gives c.ρ m p r m' q from h)
    cases co <;> try exact (Bool.false_ne_true h1).elim
    rename_i x y
    obtain ⟨hR1, hR2⟩ := Bool.and_eq_true_iff.1 (show (codeRegs x && codeRegs y) = true from hR)
    obtain ⟨r0, m1, p1, h3, h4⟩ := M.gives_bnd h2
    refine wp_seq (evCode_ok hM hcf it x hR1 hρ hm hp he h3 _ fun a1 w1 hp1 hA => ?_)
    obtain ⟨z, env1⟩ := r0
    cases z with
    | normal =>
      obtain ⟨c1, s1, he1, hd⟩ := hA
      have hr := s1.le.ρ
      exact path_ok hM hcf it n d y hR2 (hr.trans hρ) s1.rel (by rw [hr]; exact hp1) he1 (by rw [hr]; exact h4) Q fun a2 w2 hq hA2 => hQ a2 w2 (by rw [← hr]; exact hq) (hA2.trans s1 hd)
    | exit i =>
      obtain ⟨rfl, rfl, rfl⟩ := M.gives_pure (show (M.pure (⟨some (.exit i), env1⟩ : XO)).gives c.ρ m1 p1 r m' q from h4)
      exact hQ a1 w1 hp1 hA
    | ret =>
      obtain ⟨rfl, rfl, rfl⟩ := M.gives_pure (show (M.pure (⟨some .ret, env1⟩ : XO)).gives c.ρ m1 p1 r m' q from h4)
      exact hQ a1 w1 hp1 hA
    | goto l =>
      obtain ⟨rfl, rfl, rfl⟩ := M.gives_pure (show (M.pure (⟨some (.goto l), env1⟩ : XO)).gives c.ρ m1 p1 r m' q from h4)
      exact hQ a1 w1 hp1 hA
  | .b :: d, co, hR, c, m, m', w, p, q, env, r, a, hρ, hm, hp, he, h, Q, hQ => by
    obtain ⟨h1, h2⟩ := M.gives_if (show (selB (isBlock co) ((evPath P cf it n d (cB co) env).bnd fun r => onXO r fun x _ => (Option.rec (M.pure r) (fun x => X.rec (M.fail "past the place") (fun i => selB (Nat.beq i (cId co)) (M.fail "past the place") (M.pure r)) (M.pure r) (fun _ => M.pure r) x) x : M XO)) (M.fail "no such place")).gives c.ρ m p r m' q from h)
    cases co <;> try exact (Bool.false_ne_true h1).elim
    rename_i id x
    obtain ⟨r0, m1, p1, h3, h4⟩ := M.gives_bnd h2
    refine wp_block (path_ok hM hcf it n d x hR hρ hm hp he h3 _ fun a1 w1 hp1 hA => ?_)
    obtain ⟨z, env1⟩ := r0
    cases z with
    | none =>
      obtain ⟨rfl, rfl, rfl⟩ := M.gives_pure (show (M.pure (⟨none, env1⟩ : XO)).gives c.ρ m1 p1 r m' q from h4)
      exact hQ a1 w1 hp1 hA
    | some z =>
      cases z with
      | normal => exact (M.gives_fail (s := "past the place") h4).elim
      | exit i =>
        have h4 : (selB (Nat.beq i id) (M.fail "past the place") (M.pure (⟨some (.exit i), env1⟩ : XO))).gives c.ρ m1 p1 r m' q := h4
        cases hb : Nat.beq i id with
        | true => rw [hb] at h4; exact (M.gives_fail (s := "past the place") h4).elim
        | false =>
          rw [hb] at h4
          obtain ⟨rfl, rfl, rfl⟩ := M.gives_pure h4
          have hq := hQ a1 w1 hp1 hA
          rw [beq_false] at hb
          show Exit.inBlock id Q (.exit i) a1 w1
          simp only [Exit.inBlock, if_neg hb]; exact hq
      | ret =>
        obtain ⟨rfl, rfl, rfl⟩ := M.gives_pure (show (M.pure (⟨some .ret, env1⟩ : XO)).gives c.ρ m1 p1 r m' q from h4)
        exact hQ a1 w1 hp1 hA
      | goto l =>
        obtain ⟨rfl, rfl, rfl⟩ := M.gives_pure (show (M.pure (⟨some (.goto l), env1⟩ : XO)).gives c.ρ m1 p1 r m' q from h4)
        exact hQ a1 w1 hp1 hA

/-- a leaf at the place, as one that has come to its end -/
noncomputable def headX (r : XO) : M XE := onXO r fun x env => (Option.rec (motive := fun _ => M XE) (M.pure ⟨.normal, env⟩) (fun x => (X.rec (motive := fun _ => M XE) (M.fail "past the place") (fun _ => M.pure ⟨x, env⟩) (M.pure ⟨x, env⟩) (fun _ => M.pure ⟨x, env⟩) (x))) (x))

noncomputable def evHead (P : Program) (cf : FuncId → List V → M V) (it n : Nat) (d : List Dir) (co : Code) (env : Env) : M XE := (evPath P cf it n d co env).bnd headX

section piece
variable {P : Program} {cf : FuncId → List V → M V} {W0 : World} {J : (Nat → Int) → Prop} {m : Mem} {n : Nat} {env : Env} {p : Pc} {a : Act} {w : World} {Q : Exit → Act → World → Prop}

/-- a code up to a place ('normal': there) -/
theorem head_ok (hM : P.follows .mixedOrders = true) (hcf : ∀ ρ, CallsOK P ρ cf) {d : List Dir} {co : Code} (hR : codeRegs co = true) {it : Nat} (hA : At W0 J m n env p a w)
    (h : ∀ ρ, J ρ → PcR ρ p → ∃ r m' q, (evHead P cf it n d co env m p).out ρ = some ⟨r, m', q⟩ ∧ ∀ a' w', At W0 (fun ρ' => ρ' = ρ) m' n r.env q a' w' →
      match r.x with
      | .normal => placeWp P d co Q a' w'
      | x => Q (exitOf x) a' w') : co.wp P Q a w := by
  obtain ⟨c, hJ, hm, hp, he, hd, hb, hw⟩ := hA
  obtain ⟨r, m', q, ho, hq⟩ := h c.ρ hJ hp
  obtain ⟨r0, m1, p1, h1, h2⟩ := M.gives_bnd (show ((evPath P cf it n d co env).bnd headX).gives c.ρ m p r m' q from ho)
  refine path_ok hM (hcf c.ρ) it n d co hR rfl hm hp he h1 Q fun a' w' hpq hAf => ?_
  obtain ⟨c', s, he', hd'⟩ := hAf
  obtain ⟨k1, k2⟩ := below_step hb hw s
  obtain ⟨z, env1⟩ := r0
  cases z with
  | none =>
    obtain ⟨rfl, rfl, rfl⟩ := M.gives_pure (show (M.pure (⟨.normal, env1⟩ : XE)).gives c.ρ m1 p1 r m' q from h2)
    exact hq a' w' ⟨c', s.le.ρ, s.rel, by rw [s.le.ρ]; exact hpq, he', hd'.trans hd, k1, k2⟩
  | some z =>
    cases z with
    | normal => exact (M.gives_fail (s := "past the place") h2).elim
    | exit i =>
      obtain ⟨rfl, rfl, rfl⟩ := M.gives_pure (show (M.pure (⟨.exit i, env1⟩ : XE)).gives c.ρ m1 p1 r m' q from h2)
      exact hq a' w' ⟨c', s.le.ρ, s.rel, by rw [s.le.ρ]; exact hpq, he', hd'.trans hd, k1, k2⟩
    | ret =>
      obtain ⟨rfl, rfl, rfl⟩ := M.gives_pure (show (M.pure (⟨.ret, env1⟩ : XE)).gives c.ρ m1 p1 r m' q from h2)
      exact hq a' w' ⟨c', s.le.ρ, s.rel, by rw [s.le.ρ]; exact hpq, he', hd'.trans hd, k1, k2⟩
    | goto l =>
      obtain ⟨rfl, rfl, rfl⟩ := M.gives_pure (show (M.pure (⟨.goto l, env1⟩ : XE)).gives c.ρ m1 p1 r m' q from h2)
      exact hq a' w' ⟨c', s.le.ρ, s.rel, by rw [s.le.ρ]; exact hpq, he', hd'.trans hd, k1, k2⟩
end piece

end Go.Sy

/-
  What is proved here: a law in pieces, with what is left to show as arithmetic.
  Conditions: none.
-/
namespace Go.Sy
open Go.RowKit (Below)

noncomputable def tagO (t : Nat) (o : Option (List G)) : Option (Nat × List G) := (Option.rec (motive := fun _ => Option (Nat × List G)) (none) (fun s => some (t, s)) (o))

/-- at the end of a round: on into the pattern (0), out of the block 'id' into the pattern (1), or back with the slot t (9) -/
noncomputable def tgtL (pt : Pt) (env : Env) (m : Mem) (id t : Nat) : Tgt := fun x env' m' => (X.rec (motive := fun _ => Option (Nat × List G)) (tagO 0 (fitSt pt env m env' m')) (fun i => selB (Nat.beq i id) (tagO 1 (fitSt pt env m env' m')) none) (boolAt env' t) (fun _ => none) (x))

/-- at a place: into the pattern (0), or back with the slot t (9) -/
noncomputable def tgtH (pt : Pt) (env : Env) (m : Mem) (t : Nat) : Tgt := fun x env' m' => (X.rec (motive := fun _ => Option (Nat × List G)) (tagO 0 (fitSt pt env m env' m')) (fun _ => none) (boolAt env' t) (fun _ => none) (x))

/-- at the end: back with the slot t (9) -/
noncomputable def tgtR (t : Nat) : Tgt := fun x env' _ => (X.rec (motive := fun _ => Option (Nat × List G)) (boolAt env' t) (fun _ => none) (boolAt env' t) (fun _ => none) (x))

theorem tagO_ok {t tag : Nat} {o : Option (List G)} {s : List G} (h : tagO t o = some (tag, s)) : tag = t ∧ o = some s := by
  cases o with
  | none => exact absurd (show none = some (tag, s) from h) (by simp)
  | some r =>
    have h : some (t, r) = some (tag, s) := h
    simp at h
    exact ⟨h.1.symm, by rw [h.2]⟩

theorem boolAt_tag {env : Env} {t tag : Nat} {s : List G} (h : boolAt env t = some (tag, s)) : tag = 9 := by
  rcases onBool_cases (env t) (fun b => some (9, [G.ofB b])) none with ⟨b, e, hb'⟩ | hb'
  · have hb : some (9, [G.ofB b]) = some (tag, s) := by rw [← hb']; exact h
    simp at hb; exact hb.1.symm
  · have hb : none = some (tag, s) := by rw [← hb']; exact h
    exact absurd hb (by simp)

/-- what a leaf owes: 'J' (and less of 'μ') on into the pattern; 'Jx' out of the loop; true where it goes back -/
def Owes (base : Nat) (p0 : Pc) (J Jx : (Nat → Int) → Prop) (ρ : Nat → Int) (v : Vc) : Prop :=
  match v.tag with
  | 0 => PcR (sub base v.s ρ) p0 ∧ J (sub base v.s ρ)
  | 1 => PcR (sub base v.s ρ) p0 ∧ Jx (sub base v.s ρ)
  | _ => ∀ g ∈ v.s, g.den ρ = 1

section laws
variable {P : Program} {cf : FuncId → List V → M V} {W0 : World} {J Jx : (Nat → Int) → Prop} {m0 : Mem} {n : Nat} {e0 : Env} {p p0 : Pc} {a : Act} {w : World} {fn : Func} {t : Nat}

/-- a loop of the law -/
theorem loop_vcs (hM : P.follows .mixedOrders = true) (hcf : ∀ ρ, CallsOK P ρ cf) {co : Code} (hR : codeRegs co = true) (hr : fn.results = #[.tmp t]) {it : Nat} {pt : Pt} {id : Nat} {l : List Vc} {Q : Exit → Act → World → Prop} (μ : (Nat → Int) → Nat)
    (hv : vcs (tgtL pt e0 m0 id t) (evCode co P cf it n (genEnv pt e0) (genMem pt m0) p0) = some l)
    (ho : ∀ v ∈ l, ∀ ρ, J ρ → PcR ρ p0 → PcR ρ v.q → Owes pt.base p0 (fun ρ' => J ρ' ∧ μ ρ' < μ ρ) Jx ρ v)
    (hQ : ∀ a w, At W0 Jx (genMem pt m0) n (genEnv pt e0) p0 a w → Q (.exit id) a w) (hQr : ∀ a w, bodyPost P fn (LawEnd W0) .ret a w → Q .ret a w)
    (hA : At W0 J (genMem pt m0) n (genEnv pt e0) p0 a w) : (Code.loop co).wp P Q a w := by
  refine loop_ok (it := it) hM hcf hR μ (fun ρ hJ hp => ?_) hA
  obtain ⟨r, m', q, tag, s, h1, h2, h3⟩ := vcs_out ρ hv
  refine ⟨r, m', q, h1, fun a' w' hA' => ?_⟩
  have ho := ho _ h3 ρ hJ hp
  obtain ⟨x, env'⟩ := r
  cases x with
  | normal =>
    obtain ⟨rfl, hf⟩ := tagO_ok (show tagO 0 (fitSt pt e0 m0 env' m') = some (tag, s) from h2)
    exact fit_ok hA' hf fun hq => ho hq
  | exit i =>
    obtain ⟨hi, h4⟩ := selB_some (show selB (Nat.beq i id) (tagO 1 (fitSt pt e0 m0 env' m')) none = some (tag, s) from h2)
    rw [beq_iff] at hi; subst hi
    obtain ⟨rfl, hf⟩ := tagO_ok h4
    exact hQ _ _ (fit_ok hA' hf fun hq => ho hq)
  | goto l => exact absurd (show none = some (tag, s) from h2) (by simp)
  | ret =>
    have h2 : boolAt env' t = some (tag, s) := h2
    have := boolAt_tag h2
    subst this
    exact hQr _ _ (ret_ok hr (x := .ret) (.inl rfl) hA' h2 fun hq => ho hq)

/-- up to a place -/
theorem head_vcs (hM : P.follows .mixedOrders = true) (hcf : ∀ ρ, CallsOK P ρ cf) {d : List Dir} {co : Code} (hR : codeRegs co = true) (hr : fn.results = #[.tmp t]) {it : Nat} {pt : Pt} {l : List Vc} {m : Mem} {env : Env} {J0 : (Nat → Int) → Prop}
    (hv : vcs (tgtH pt e0 m0 t) (evHead P cf it n d co env m p) = some l)
    (ho : ∀ v ∈ l, ∀ ρ, J0 ρ → PcR ρ p → PcR ρ v.q → Owes pt.base p0 J Jx ρ v)
    (hQ : ∀ a w, At W0 J (genMem pt m0) n (genEnv pt e0) p0 a w → placeWp P d co (bodyPost P fn (LawEnd W0)) a w)
    (hA : At W0 J0 m n env p a w) : co.wp P (bodyPost P fn (LawEnd W0)) a w := by
  refine head_ok (it := it) (d := d) hM hcf hR hA fun ρ hJ hp => ?_
  obtain ⟨r, m', q, tag, s, h1, h2, h3⟩ := vcs_out ρ hv
  refine ⟨r, m', q, h1, fun a' w' hA' => ?_⟩
  have ho := ho _ h3 ρ hJ hp
  obtain ⟨x, env'⟩ := r
  cases x with
  | normal =>
    obtain ⟨rfl, hf⟩ := tagO_ok (show tagO 0 (fitSt pt e0 m0 env' m') = some (tag, s) from h2)
    exact hQ _ _ (fit_ok hA' hf fun hq => ho hq)
  | exit i => exact absurd (show none = some (tag, s) from h2) (by simp)
  | goto l => exact absurd (show none = some (tag, s) from h2) (by simp)
  | ret =>
    have h2 : boolAt env' t = some (tag, s) := h2
    have := boolAt_tag h2
    subst this
    exact ret_ok hr (x := .ret) (.inl rfl) hA' h2 fun hq => ho hq

/-- to the end -/
theorem end_vcs (hM : P.follows .mixedOrders = true) (hcf : ∀ ρ, CallsOK P ρ cf) {co : Code} (hR : codeRegs co = true) (hr : fn.results = #[.tmp t]) {it : Nat} {l : List Vc} {m : Mem} {env : Env}
    (hv : vcs (tgtR t) (evCode co P cf it n env m p) = some l)
    {base : Nat} {J1 J2 : (Nat → Int) → Prop} (ho : ∀ v ∈ l, ∀ ρ, J ρ → PcR ρ p → PcR ρ v.q → Owes base p0 J1 J2 ρ v)
    (hA : At W0 J m n env p a w) : co.wp P (bodyPost P fn (LawEnd W0)) a w := by
  refine piece_ok (it := it) hM hcf hR hA fun ρ hJ hp => ?_
  obtain ⟨r, m', q, tag, s, h1, h2, h3⟩ := vcs_out ρ hv
  refine ⟨r, m', q, h1, fun a' w' hA' => ?_⟩
  have ho := ho _ h3 ρ hJ hp
  obtain ⟨x, env'⟩ := r
  cases x with
  | normal =>
    have h2 : boolAt env' t = some (tag, s) := h2
    have := boolAt_tag h2
    subst this
    exact ret_ok hr (x := .normal) (.inr rfl) hA' h2 fun hq => ho hq
  | exit i => exact absurd (show none = some (tag, s) from h2) (by simp)
  | goto l => exact absurd (show none = some (tag, s) from h2) (by simp)
  | ret =>
    have h2 : boolAt env' t = some (tag, s) := h2
    have := boolAt_tag h2
    subst this
    exact ret_ok hr (x := .ret) (.inl rfl) hA' h2 fun hq => ho hq
end laws

/-! ### facts as arithmetic -/

/-- the path's facts -/
def factsP (ρ : Nat → Int) : List (B × Bool) → Prop
  | [] => True
  | (c, v) :: l => c.den ρ = v ∧ factsP ρ l
def rngP (ρ : Nat → Int) : Nat → List (Int × Int) → Prop
  | _, [] => True
  | i, (lo, hi) :: l => (lo ≤ ρ i ∧ ρ i ≤ hi) ∧ rngP ρ (i + 1) l

theorem factsP_of {ρ : Nat → Int} : ∀ {l : List (B × Bool)}, (∀ c ∈ l, c.1.den ρ = c.2) → factsP ρ l
  | [], _ => trivial
  | (c, v) :: _, h => ⟨h (c, v) (.head _), factsP_of fun d hd => h d (.tail _ hd)⟩

theorem rngP_of {ρ : Nat → Int} : ∀ {l : List (Int × Int)} {i : Nat}, (∀ j lo hi, l[j]? = some (lo, hi) → lo ≤ ρ (i + j) ∧ ρ (i + j) ≤ hi) → rngP ρ i l
  | [], _, _ => trivial
  | (lo, hi) :: _, i, h => ⟨by have := h 0 lo hi rfl; simpa using this, rngP_of fun j lo' hi' hj => by
      have := h (j + 1) lo' hi' (by simpa using hj)
      rw [show i + 1 + j = i + (j + 1) by omega]; exact this⟩

theorem rngP_iff {ρ : Nat → Int} {l : List (Int × Int)} : RngR ρ l ↔ rngP ρ 0 l := by
  constructor
  · intro h; exact rngP_of fun j lo hi hj => by rw [Nat.zero_add]; exact h j lo hi hj
  · intro h j lo hi hj
    have key : ∀ {l : List (Int × Int)} {i j : Nat}, rngP ρ i l → l[j]? = some (lo, hi) → lo ≤ ρ (i + j) ∧ ρ (i + j) ≤ hi := by
      intro l
      induction l with
      | nil => intro i j _ h; simp at h
      | cons x l ih =>
        intro i j h hj
        obtain ⟨a, b⟩ := x
        cases j with
        | zero => simp at hj; obtain ⟨rfl, rfl⟩ := hj; exact h.1
        | succ j =>
          have := ih h.2 (by simpa using hj)
          rw [show i + (j + 1) = i + 1 + j by omega]; exact this
    have := key h hj
    rwa [Nat.zero_add] at this

theorem pcR_facts {ρ : Nat → Int} {cs : List (B × Bool)} {rng : List (Int × Int)} (h : PcR ρ ⟨cs, rng⟩) : factsP ρ cs ∧ rngP ρ 0 rng := ⟨factsP_of h.cs, rngP_iff.1 h.rng⟩
theorem pcR_of {ρ : Nat → Int} {rng : List (Int × Int)} (h : rngP ρ 0 rng) : PcR ρ ⟨[], rng⟩ := ⟨fun c hc => by simp at hc, rngP_iff.2 h⟩

section den
variable {ρ : Nat → Int}
theorem den_n {z : Int} : (E.n z).den ρ = z := rfl
theorem den_x {i : Nat} : (E.x i).den ρ = ρ i := rfl
theorem den_add {k : IntKind} {a b : E} (h1 : kMin k ≤ a.den ρ + b.den ρ) (h2 : a.den ρ + b.den ρ ≤ kMax k) : (E.bin .add k a b).den ρ = a.den ρ + b.den ρ := by
  show wrapZ k (a.den ρ + b.den ρ) = _
  rw [wrapZ_eq]; exact wrap_in k _ h1 h2
theorem den_sub {k : IntKind} {a b : E} (h1 : kMin k ≤ a.den ρ - b.den ρ) (h2 : a.den ρ - b.den ρ ≤ kMax k) : (E.bin .sub k a b).den ρ = a.den ρ - b.den ρ := by
  show wrapZ k (a.den ρ - b.den ρ) = _
  rw [wrapZ_eq]; exact wrap_in k _ h1 h2
theorem den_rem {k : IntKind} {a b : E} (h : 0 ≤ a.den ρ) : (E.bin .rem k a b).den ρ = a.den ρ % b.den ρ := by
  show (a.den ρ).tmod (b.den ρ) = _
  exact Int.tmod_eq_emod_of_nonneg h
theorem den_quo {k : IntKind} {a b : E} (h : 0 ≤ a.den ρ) (h1 : kMin k ≤ a.den ρ / b.den ρ) (h2 : a.den ρ / b.den ρ ≤ kMax k) : (E.bin .quo k a b).den ρ = a.den ρ / b.den ρ := by
  show wrapZ k ((a.den ρ).tdiv (b.den ρ)) = _
  rw [Int.tdiv_eq_ediv_of_nonneg h, wrapZ_eq]; exact wrap_in k _ h1 h2
theorem den_lt {a b : E} {v : Bool} : ((B.lt a b).den ρ = v) = (decide (a.den ρ < b.den ρ) = v) := rfl
theorem den_eq {a b : E} {v : Bool} : ((B.eq a b).den ρ = v) = ((a.den ρ == b.den ρ) = v) := rfl
theorem den_not {a : B} {v : Bool} : ((B.not a).den ρ = v) = ((!a.den ρ) = v) := rfl
end den

end Go.Sy

