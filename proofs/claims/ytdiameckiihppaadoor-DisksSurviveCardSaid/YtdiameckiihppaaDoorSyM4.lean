/-
  What is defined and proved here: a part of the symbolic evaluator: SyDraw5, SyRun3, SyRun4.
  Conditions: none.
-/
import Derived.Test.YtdiameckiihppaaDoorSyM3
import Derived.Scope
/-
  What is proved here: a region whose order is drawn does what its run in the order of the text says, in every order.
  Conditions: none.
-/
namespace Go.Sy

section run
variable {P : Program} {ρ : Nat → Int} {ops : Array Oper} {n : Nat} {env0 : Env} {m0 : Mem}

/-- an operation that reads, where more of the memory is known -/
theorem does_rd' {o : Oper} {env : Env} {cf : FuncId → List V → M V} {m : Mem} {p q p1 q1 : Pc} {f : R V} {v : V} {u d : Mem} (hp : PcR ρ p) (h : (guardO o.guard (fun g => guardR ops g n env)).gives ρ m p true q) (hk : evKind o.op P cf env = .rd f) (hp1 : PcR ρ p1) (hsub : MemSub u d) (hf : f.gives ρ d p1 v q1) :
    Does P ρ ops n o env u v u := by
  intro c w a hc hm he r K Q hK
  rw [if_pos (guardO_ok hp h hc he)]
  subst hc
  rw [← look_kind (ops := ops) (o := o)] at hk
  obtain ⟨_, z, h4, h5⟩ := rd_ok (hsub.rel hm) hp1 he.full hk hf
  refine wpIn_of (fun cl e => by rw [e] at hk; exact Kd.ef_rd hk) ?_
  rw [h4]
  exact hK c w z (Step.refl hm) h5

theorem rev_head {s : Sn} {r : List Sn} : (s :: r).reverse[r.length]? = some s := by
  rw [List.reverse_cons, List.getElem?_append_right (by simp)]
  simp

theorem rev_tail {s : Sn} {r : List Sn} {a : Nat} (h : a < r.length) : (s :: r).reverse[a]? = r.reverse[a]? := by
  rw [List.reverse_cons, List.getElem?_append_left (by simpa using h)]

theorem testBit_pow {i j : Nat} : (Nat.pow 2 i).testBit j = true ↔ j = i := by
  show (2 ^ i).testBit j = true ↔ j = i
  rw [Nat.testBit_two_pow]
  simp
  exact eq_comm

/-- what the evaluator remembers of a block -/
def GrR (D : Data) (b0 : Nat) (g : Gr) : Prop :=
  ∃ s, g.b = b0 + s ∧ g.i0 = s ∧ D.cl s = .mk ∧ D.cls s = none ∧ D.con s = g.k ∧ (D.ent s).map (·.2) = g.es ∧ (∀ j, g.e.testBit j = true ↔ j = s ∨ D.cl j = .ins s) ∧ ∀ kt, g.kt = some kt → g.k = .map [] 0 true ∧ D.kt s = kt

/-- a block that was shut -/
def HR (D : Data) (b0 a : Nat) (s : Sn) : Prop := ∀ y, s.h = some y → ∃ t, y.1 = b0 + t ∧ D.cls t = some a ∧ D.ent t = [] ∧ D.con t = y.2

/-- what the evaluator remembers -/
structure Mind (P : Program) (ρ : Nat → Int) (ops : Array Oper) (n : Nat) (env0 : Env) (m0 : Mem) (i k : Nat) (D : Data) (sn : List Sn) (rs : List Nat) (gs : List Gr) (ws : List Wt) : Prop where
  len : sn.length = k
  sns : ∀ a s, sn.reverse[a]? = some s → (∀ j, s.e.testBit j = true ↔ D.lev j = some a) ∧ s.m = D.base a ∧ (s.g = false → D.kd a = none) ∧ HR D m0.nb a s
  rss : ∀ s, alAt ops s = true → D.cls s = none → m0.nb + s ∈ rs
  grs : ∀ g ∈ gs, GrR D m0.nb g
  gnd : (gs.map (·.b)).Nodup
  wss : ∀ (j : Nat) (o : Oper), j < i → ops[j]? = some o → D.cl j = .rd → (∃ e b, D.lev e = some b ∧ Anc ops e j) ∨ (∀ u, Does P ρ ops n o (envT ops D.val env0 j) u (D.val j) u) ∨
    ∃ w ∈ ws, w.i = j ∧ PcR ρ w.p ∧ ∀ u d q, MemSub u d → w.f.gives ρ d w.p w.v q → Does P ρ ops n o (envT ops D.val env0 j) u (D.val j) u

section step
variable {i k : Nat} {D D' : Data} {cur m1 : Mem} {sn : List Sn} {rs : List Nat} {gs : List Gr} {ws : List Wt} {o : Oper} {v : V} {A : Nat}

/-- what comes before -/
theorem anc_of_last (C : Cert P ρ ops n env0 m0 i k D cur) (hA : ∀ b, A.testBit b = true → Anc ops i b) : ∀ {t : List Sn}, (∀ a s, t.reverse[a]? = some s → (∀ j, s.e.testBit j = true ↔ D.lev j = some a) ∧ s.m = D.base a ∧ (s.g = false → D.kd a = none) ∧ HR D m0.nb a s) → t.length ≤ k → lastOk A t = true →
    ∀ e a, D.lev e = some a → a < t.length → Anc ops i e
  | [], _, _, _, e, a, _, h => absurd h (by simp)
  | s :: r, hs, hk, hl, e, a, he, ha => by
    obtain ⟨h1, _, h3, _⟩ := hs r.length s rev_head
    obtain ⟨h4, h5⟩ := andB_ok (show andB (subN s.e A) (selB s.g (lastOk A r) true) = true from hl)
    simp only [List.length_cons] at ha hk
    by_cases har : a = r.length
    · subst har
      exact hA _ (subN_bit h4 ((h1 e).2 he))
    · cases hg : s.g with
      | true =>
        rw [hg] at h5
        exact anc_of_last C hA (fun a s' hs' => hs a s' (by rw [rev_tail (by have := (List.getElem?_eq_some_iff.1 hs').1; simpa using this)]; exact hs')) (by omega) h5 e a he (by omega)
      | false =>
        obtain ⟨j, hj⟩ := C.kdn r.length (by omega) (h3 hg)
        have hjl : D.lev j = some r.length := by unfold Data.lev; rw [hj]
        exact (hA _ (subN_bit h4 ((h1 j).2 hjl))).trans (C.chain j _ hj e a he (by omega))

theorem lev_same (C : Cert P ρ ops n env0 m0 i k D cur) {c : Cl} (h2 : D'.cl = updN D.cl i c) (h3 : D'.cls = D.cls) (hc : c = .rd ∨ c = .mk ∨ ∃ s, c = .ins s ∧ D.cls s = none) : D'.lev = D.lev := by
  have hi : D.cl i = .rd := C.side.fresh i (Nat.le_refl _)
  have hci : D.cls i = none := C.cfresh i (by rw [hi]; exact fun h => (nomatch h))
  funext e
  unfold Data.lev
  by_cases he : e = i
  · subst he
    rw [h2, updN_same, hi, h3]
    rcases hc with rfl | rfl | ⟨s, rfl, hs⟩
    · rfl
    · exact hci
    · exact hs
  · rw [h2, updN_ne he, h3]

theorem Mind.addSame (C : Cert P ρ ops n env0 m0 i k D cur) (N : Mind P ρ ops n env0 m0 i k D sn rs gs ws) (ho : ops[i]? = some o) {c : Cl} (h1 : D'.val = updN D.val i v) (h2 : D'.cl = updN D.cl i c) (h3 : D'.cls = D.cls) (h4 : D'.kd = D.kd) (h5 : D'.base = D.base) (hce : ∀ s a, D.cls s = some a → D'.con s = D.con s ∧ D'.ent s = D.ent s) {gs' : List Gr} {ws' : List Wt}
    (hgs : ∀ g ∈ gs', GrR D' m0.nb g) (hgn : (gs'.map (·.b)).Nodup) (hsub : ∀ w ∈ ws, w ∈ ws')
    (hc : c = .rd ∧ ((∀ u, Does P ρ ops n o (envT ops D.val env0 i) u v u) ∨ ∃ w ∈ ws', w.i = i ∧ PcR ρ w.p ∧ ∀ u d q, MemSub u d → w.f.gives ρ d w.p w.v q → Does P ρ ops n o (envT ops D.val env0 i) u v u) ∨ c = .mk ∨ ∃ s, c = .ins s ∧ D.cls s = none) :
    Mind P ρ ops n env0 m0 (i + 1) k D' sn rs gs' ws' := by
  have hlev := lev_same C h2 h3 (hc.imp (·.1) id)
  refine ⟨N.len, fun a s hs => ?_, fun s ha hcs => ?_, hgs, hgn, fun j o' hj ho' hrd => ?_⟩
  · rw [hlev, h4, h5]
    obtain ⟨k1, k2, k3, k4⟩ := N.sns a s hs
    refine ⟨k1, k2, k3, fun y hy => ?_⟩
    obtain ⟨t, e1, e2, e3, e4⟩ := k4 y hy
    obtain ⟨c1, c2⟩ := hce t a e2
    exact ⟨t, e1, by rw [h3]; exact e2, by rw [c2]; exact e3, by rw [c1]; exact e4⟩
  · rw [h3] at hcs; exact N.rss s ha hcs
  · rw [hlev, h1]
    rcases lt_split hj with hj | rfl
    · rw [h2, updN_lt hj] at hrd
      rw [envT_upd (Nat.le_of_lt hj), updN_lt hj]
      rcases N.wss j o' hj ho' hrd with h | h | ⟨w, hw, h⟩
      · exact .inl h
      · exact .inr (.inl h)
      · exact .inr (.inr ⟨w, hsub w hw, h⟩)
    · rw [ho] at ho'; obtain rfl := Option.some.inj ho'
      rw [envT_upd (Nat.le_refl _), updN_same]
      rw [h2, updN_same] at hrd
      rcases hc with ⟨_, h⟩ | h | ⟨s, h, _⟩
      · exact .inr h
      · rw [h] at hrd; exact nomatch hrd
      · rw [h] at hrd; exact nomatch hrd

theorem Mind.addRd (C : Cert P ρ ops n env0 m0 i k D cur) (N : Mind P ρ ops n env0 m0 i k D sn rs gs ws) (ho : ops[i]? = some o) {ws' : List Wt} (hsub : ∀ w ∈ ws, w ∈ ws')
    (hw : (∀ u, Does P ρ ops n o (envT ops D.val env0 i) u v u) ∨ ∃ w ∈ ws', w.i = i ∧ PcR ρ w.p ∧ ∀ u d q, MemSub u d → w.f.gives ρ d w.p w.v q → Does P ρ ops n o (envT ops D.val env0 i) u v u) :
    Mind P ρ ops n env0 m0 (i + 1) k { D with val := updN D.val i v, cl := updN D.cl i .rd } sn rs gs ws' := by
  have hi : D.cl i = .rd := C.side.fresh i (Nat.le_refl _)
  have e : updN D.cl i .rd = D.cl := by
    funext j
    by_cases h : j = i
    · subst h; rw [updN_same, hi]
    · exact updN_ne h
  refine N.addSame (D' := { D with val := updN D.val i v, cl := updN D.cl i .rd }) C ho (c := .rd) rfl rfl rfl rfl rfl (fun _ _ _ => ⟨rfl, rfl⟩) (fun g hg => ?_) N.gnd hsub (.inl ⟨rfl, hw⟩)
  unfold GrR
  dsimp only
  rw [e]
  exact N.grs g hg

theorem Mind.addMk (C : Cert P ρ ops n env0 m0 i k D cur) (N : Mind P ρ ops n env0 m0 i k D sn rs gs ws) (ho : ops[i]? = some o) {B : Blk} {kt : Option TypeId} (hkt : ∀ t, kt = some t → B = .map [] 0 true) :
    Mind P ρ ops n env0 m0 (i + 1) k { D with val := updN D.val i v, cl := updN D.cl i .mk, con := updN D.con i B, ent := updN D.ent i [], kt := updN D.kt i (kt.getD 0) } sn rs (⟨m0.nb + i, B, kt, [], Nat.pow 2 i, i⟩ :: gs) ws := by
  have hi : D.cl i = .rd := C.side.fresh i (Nat.le_refl _)
  have hins : ∀ j s, updN D.cl i .mk j = .ins s ↔ D.cl j = .ins s := by
    intro j s
    by_cases h : j = i
    · subst h; rw [updN_same, hi]; exact ⟨fun h => (nomatch h), fun h => (nomatch h)⟩
    · rw [updN_ne h]
  have hne : ∀ g ∈ gs, g.b ≠ m0.nb + i := by
    intro g hg e
    obtain ⟨s, k1, _, k2, _⟩ := N.grs g hg
    have : s = i := by omega
    subst this
    rw [hi] at k2; exact nomatch k2
  refine N.addSame (D' := { D with val := updN D.val i v, cl := updN D.cl i .mk, con := updN D.con i B, ent := updN D.ent i [], kt := updN D.kt i (kt.getD 0) }) C ho (c := .mk) rfl rfl rfl rfl rfl (fun t a ht => have hti : t ≠ i := (by rintro rfl; rw [C.cfresh _ (by rw [hi]; exact fun h => nomatch h)] at ht; exact nomatch ht); ⟨updN_ne hti, updN_ne hti⟩) (fun g hg => ?_) ?_ (fun w hw => hw) (.inr (.inl rfl))
  · rcases List.mem_cons.1 hg with rfl | hg
    · refine ⟨i, rfl, rfl, updN_same, C.cfresh i (by rw [hi]; exact fun h => (nomatch h)), updN_same, ?_, fun j => ?_, fun t ht => ?_⟩
      · dsimp only; rw [updN_same]; rfl
      · dsimp only
        rw [hins, testBit_pow]
        refine ⟨.inl, fun h => h.elim id fun h => ?_⟩
        have := (C.side.ins j i h).1
        rw [hi] at this; exact nomatch this
      · refine ⟨hkt t ht, ?_⟩
        dsimp only at ht ⊢
        rw [updN_same, ht]; rfl
    · obtain ⟨s, k1, k0, k2, k3, k4, k5, k6, k7⟩ := N.grs g hg
      have hsi : s ≠ i := by rintro rfl; rw [hi] at k2; exact nomatch k2
      refine ⟨s, k1, k0, ?_, k3, ?_, ?_, fun j => ?_, fun t ht => ?_⟩ <;> dsimp only
      · rw [updN_ne hsi]; exact k2
      · rw [updN_ne hsi]; exact k4
      · rw [updN_ne hsi]; exact k5
      · rw [hins]; exact k6 j
      · rw [updN_ne hsi]; exact k7 t ht
  · rw [List.map_cons, List.nodup_cons]
    refine ⟨fun h => ?_, N.gnd⟩
    obtain ⟨g, hg, e⟩ := List.mem_map.1 h
    exact hne g hg e

theorem mapG_eq (f : Gr → Gr) : ∀ (l : List Gr), mapG f l = l.map f
  | [] => rfl
  | g :: l => by
    show f g :: mapG f l = f g :: l.map f
    rw [mapG_eq f l]

theorem Mind.addIns (C : Cert P ρ ops n env0 m0 i k D cur) (N : Mind P ρ ops n env0 m0 i k D sn rs gs ws) (ho : ops[i]? = some o) {s : Nat} (hcl : D.cls s = none) {kv : V × V} :
    Mind P ρ ops n env0 m0 (i + 1) k { D with val := updN D.val i v, cl := updN D.cl i (.ins s), ent := updN D.ent s (D.ent s ++ [(i, kv)]) } sn rs (mapG (fun h => selB (Nat.beq h.b (m0.nb + s)) ⟨h.b, h.k, h.kt, h.es ++ [kv], Nat.lor h.e (Nat.pow 2 i), h.i0⟩ h) gs) ws := by
  have hi : D.cl i = .rd := C.side.fresh i (Nat.le_refl _)
  have hins : ∀ j t, updN D.cl i (.ins s) j = .ins t ↔ D.cl j = .ins t ∨ j = i ∧ t = s := by
    intro j t
    by_cases h : j = i
    · subst h
      rw [updN_same, hi]
      exact ⟨fun h => .inr ⟨rfl, (Cl.ins.inj h).symm⟩, fun h => h.elim (fun h => (nomatch h)) fun h => by rw [h.2]⟩
    · rw [updN_ne h]
      exact ⟨.inl, fun h' => h'.elim id fun h' => absurd h'.1 h⟩
  rw [mapG_eq]
  refine N.addSame (D' := { D with val := updN D.val i v, cl := updN D.cl i (.ins s), ent := updN D.ent s (D.ent s ++ [(i, kv)]) }) C ho (c := .ins s) rfl rfl rfl rfl rfl (fun t a ht => ⟨rfl, updN_ne (by rintro rfl; rw [hcl] at ht; exact nomatch ht)⟩) (fun g hg => ?_) ?_ (fun w hw => hw) (.inr (.inr ⟨s, rfl, hcl⟩))
  · obtain ⟨h, hh, rfl⟩ := List.mem_map.1 hg
    obtain ⟨t, k1, k0, k2, k3, k4, k5, k6, k7⟩ := N.grs h hh
    have hti : t ≠ i := by rintro rfl; rw [hi] at k2; exact nomatch k2
    by_cases e : t = s
    · subst e
      rw [(beq_iff _ _).2 k1]
      refine ⟨t, k1, k0, ?_, k3, k4, ?_, fun j => ?_, k7⟩ <;> dsimp only
      · rw [updN_ne hti]; exact k2
      · rw [updN_same, List.map_append, k5]; rfl
      · show (h.e ||| 2 ^ i).testBit j = true ↔ _
        have e2 : ((2 : Nat) ^ i).testBit j = true ↔ j = i := testBit_pow
        rw [Nat.testBit_or, Bool.or_eq_true, k6 j, e2, hins]
        constructor
        · rintro ((h | h) | h)
          · exact .inl h
          · exact .inr (.inl h)
          · exact .inr (.inr ⟨h, rfl⟩)
        · rintro (h | h | h)
          · exact .inl (.inl h)
          · exact .inl (.inr h)
          · exact .inr h.1
    · rw [(beq_false _ _).2 (by omega)]
      refine ⟨t, k1, k0, ?_, k3, k4, ?_, fun j => ?_, k7⟩ <;> dsimp only
      · rw [updN_ne hti]; exact k2
      · rw [updN_ne e]; exact k5
      · rw [hins, selB_false, k6 j]
        exact ⟨fun h => h.imp id .inl, fun h => h.imp id fun h => h.elim id fun h => absurd h.2 e⟩
  · have e : (gs.map fun h => selB (Nat.beq h.b (m0.nb + s)) (⟨h.b, h.k, h.kt, h.es ++ [kv], Nat.lor h.e (Nat.pow 2 i), h.i0⟩ : Gr) h).map (·.b) = gs.map (·.b) := by
      rw [List.map_map]
      refine List.map_congr_left fun h _ => ?_
      show (selB (Nat.beq h.b (m0.nb + s)) (⟨h.b, h.k, h.kt, h.es ++ [kv], Nat.lor h.e (Nat.pow 2 i), h.i0⟩ : Gr) h).b = h.b
      cases Nat.beq h.b (m0.nb + s) <;> rfl
    rw [e]; exact N.gnd

/-- behind one more operation that has an effect -/
theorem Mind.addEf (C : Cert P ρ ops n env0 m0 i k D cur) (N : Mind P ρ ops n env0 m0 i k D sn rs gs ws) (hA : ∀ b, A.testBit b = true → Anc ops i b) :
    Mind P ρ ops n env0 m0 (i + 1) (k + 1) { D with val := updN D.val i v, cl := updN D.cl i (.ef k), kd := updN D.kd k none, base := updN D.base (k + 1) m1 } (⟨Nat.pow 2 i, cur, false, none⟩ :: sn) rs gs (keepL (fun w => bitB A w.i) ws) := by
  have hi : D.cl i = .rd := C.side.fresh i (Nat.le_refl _)
  generalize hD' : ({ D with val := updN D.val i v, cl := updN D.cl i (.ef k), kd := updN D.kd k none, base := updN D.base (k + 1) m1 } : Data) = D'
  have h1 : D'.val = updN D.val i v := by rw [← hD']
  have h2 : D'.cl = updN D.cl i (.ef k) := by rw [← hD']
  have h3 : D'.cls = D.cls := by rw [← hD']
  have h4 : D'.kd = updN D.kd k none := by rw [← hD']
  have h5 : D'.base = updN D.base (k + 1) m1 := by rw [← hD']
  have h6 : D'.con = D.con := by rw [← hD']
  have h7 : D'.ent = D.ent := by rw [← hD']
  have h8 : D'.kt = D.kt := by rw [← hD']
  clear hD'
  have hlev : ∀ {e}, e ≠ i → D'.lev e = D.lev e := fun {e} he => by unfold Data.lev; rw [h2, updN_ne he, h3]
  have hlevi : D'.lev i = some k := by unfold Data.lev; rw [h2, updN_same]
  have hli : D.lev i = none := by unfold Data.lev; rw [hi]
  have hins : ∀ j s, updN D.cl i (.ef k) j = .ins s ↔ D.cl j = .ins s := by
    intro j s
    by_cases h : j = i
    · subst h; rw [updN_same, hi]; exact ⟨fun h => (nomatch h), fun h => (nomatch h)⟩
    · rw [updN_ne h]
  have hlen := N.len
  refine ⟨by simp [hlen], fun a s hs => ?_, fun s ha hcs => ?_, fun g hg => ?_, N.gnd, fun j o' hj ho' hrd => ?_⟩
  · by_cases hak : a = k
    · subst hak
      rw [show (⟨Nat.pow 2 i, cur, false, none⟩ :: sn : List Sn).reverse[a]? = some ⟨Nat.pow 2 i, cur, false, none⟩ by rw [← hlen]; exact rev_head] at hs
      obtain rfl := Option.some.inj hs
      rw [h4, h5, updN_same, updN_ne (by omega), C.top]
      refine ⟨fun j => ?_, rfl, fun _ => rfl, fun y hy => nomatch hy⟩
      rw [testBit_pow]
      constructor
      · rintro rfl; exact hlevi
      · intro h
        by_cases he : j = i
        · exact he
        · rw [hlev he] at h
          have := C.levk h; omega
    · have hlt := (List.getElem?_eq_some_iff.1 hs).1
      simp only [List.length_reverse, List.length_cons] at hlt
      rw [rev_tail (by omega)] at hs
      obtain ⟨k1, k2, k3, k4⟩ := N.sns a s hs
      rw [h4, h5, updN_ne hak, updN_ne (by omega)]
      refine ⟨fun j => ?_, k2, k3, fun y hy => by unfold HR at k4; rw [h3, h6, h7]; exact k4 y hy⟩
      rw [k1 j]
      by_cases he : j = i
      · subst he
        rw [hli, hlevi]
        exact ⟨fun h => (nomatch h), fun h => absurd (Option.some.inj h).symm hak⟩
      · rw [hlev he]
  · rw [h3] at hcs; exact N.rss s ha hcs
  · obtain ⟨s, k1, k0, k2, k3, k4, k5, k6, k7⟩ := N.grs g hg
    have hsi : s ≠ i := by rintro rfl; rw [hi] at k2; exact nomatch k2
    refine ⟨s, k1, k0, ?_, ?_, ?_, ?_, fun j => ?_, ?_⟩
    · rw [h2, updN_ne hsi]; exact k2
    · rw [h3]; exact k3
    · rw [h6]; exact k4
    · rw [h7]; exact k5
    · rw [h2, hins]; exact k6 j
    · rw [h8]; exact k7
  · rcases lt_split hj with hj | rfl
    rotate_left
    · rw [h2, updN_same] at hrd; exact nomatch hrd
    rw [h2, updN_lt hj] at hrd
    rw [h1, envT_upd (Nat.le_of_lt hj), updN_lt hj]
    rcases N.wss j o' hj ho' hrd with ⟨e, b, he, hanc⟩ | h | ⟨w, hw, rfl, h⟩
    · refine .inl ⟨e, b, ?_, hanc⟩
      rw [hlev]
      · exact he
      · have := C.levlt he; omega
    · exact .inr (.inl h)
    · cases hb : bitB A w.i with
      | true => exact .inl ⟨i, k, hlevi, hA _ (bitB_iff hb)⟩
      | false => exact .inr (.inr ⟨w, keepL_mem hw hb, rfl, h⟩)

theorem insL_true (G : List (Nat × (V × V))) : insL G (fun _ => true) = G.map (·.2) := insL_all fun _ _ => rfl

/-- a block is shut -/
theorem shut_one (C : Cert P ρ ops n env0 m0 i k D cur) (hin : i ≤ ops.size) {hd r : List Gr} {g : Gr} (N : Mind P ρ ops n env0 m0 i k D sn rs (hd ++ g :: r) ws) :
    ∃ D', Cert P ρ ops n env0 m0 i (k + 1) D' (setB cur g.b (shutB g)) ∧ Mind P ρ ops n env0 m0 i (k + 1) D' (⟨g.e, cur, true, hOf g⟩ :: sn) (keepL (fun b => Nat.beq b g.b) rs) (hd ++ r) ws ∧ D'.val = D.val := by
  obtain ⟨s, k1, k0, k2, k3, k4, k5, k6, k7⟩ := N.grs g (by simp)
  have hcnt : D.cnt s (fun _ => true) = shutB g := by
    unfold Data.cnt
    rw [k2]
    show entB (D.con s) (insL (D.ent s) fun _ => true) = shutB g
    rw [insL_true, k4, k5]
    obtain ⟨b, gk, gt, es, e, i0⟩ := g
    cases es <;> rfl
  have C' := C.shut hin k2 k3
  rw [hcnt, ← k1] at C'
  refine ⟨_, C', ?_, rfl⟩
  have hlen := N.len
  generalize hD' : ({ D with cls := updN D.cls s (some k), kd := updN D.kd k (some s), base := updN D.base (k + 1) (setB cur g.b (shutB g)) } : Data) = D'
  have h1 : D'.val = D.val := by rw [← hD']
  have h2 : D'.cl = D.cl := by rw [← hD']
  have h3 : D'.cls = updN D.cls s (some k) := by rw [← hD']
  have h4 : D'.kd = updN D.kd k (some s) := by rw [← hD']
  have h5 : D'.base = updN D.base (k + 1) (setB cur g.b (shutB g)) := by rw [← hD']
  have h6 : D'.con = D.con := by rw [← hD']
  have h7 : D'.ent = D.ent := by rw [← hD']
  have h8 : D'.kt = D.kt := by rw [← hD']
  clear hD' C'
  have hlev : ∀ e b, D'.lev e = some b ↔ D.lev e = some b ∨ b = k ∧ (e = s ∨ D.cl e = .ins s) := by
    intro e b
    unfold Data.lev
    rw [h2]
    have hns : D.cls s = some b → False := fun h => by rw [k3] at h; exact nomatch h
    cases hc : D.cl e with
    | rd =>
      refine ⟨fun h => (nomatch h), fun h => h.elim (fun h => (nomatch h)) fun h => h.2.elim (fun e => ?_) fun h => (nomatch h)⟩
      subst e; rw [k2] at hc; exact nomatch hc
    | ef a =>
      refine ⟨.inl, fun h => h.elim id fun h => h.2.elim (fun e => ?_) fun h => (nomatch h)⟩
      subst e; rw [k2] at hc; exact nomatch hc
    | mk =>
      dsimp only
      rw [h3]
      by_cases e : e = s
      · subst e
        rw [updN_same]
        exact ⟨fun h => .inr ⟨(Option.some.inj h).symm, .inl rfl⟩, fun h => h.elim (fun h => (hns h).elim) fun h => by rw [h.1]⟩
      · rw [updN_ne e]
        exact ⟨.inl, fun h => h.elim id fun h => h.2.elim (fun h => absurd h e) fun h => (nomatch h)⟩
    | ins t =>
      dsimp only
      rw [h3]
      by_cases e : t = s
      · subst e
        rw [updN_same]
        exact ⟨fun h => .inr ⟨(Option.some.inj h).symm, .inr rfl⟩, fun h => h.elim (fun h => (hns h).elim) fun h => by rw [h.1]⟩
      · rw [updN_ne e]
        refine ⟨.inl, fun h => h.elim id fun h => h.2.elim (fun h' => ?_) fun h' => absurd (Cl.ins.inj h') e⟩
        subst h'; rw [k2] at hc; exact nomatch hc
  have hnd := N.gnd
  rw [List.map_append, List.map_cons, List.nodup_append] at hnd
  obtain ⟨n1, n2, n3⟩ := hnd
  rw [List.nodup_cons] at n2
  refine ⟨by simp [hlen], fun a t hs => ?_, fun t ha hcs => ?_, fun h hh => ?_, ?_, fun j o' hj ho' hrd => ?_⟩
  · by_cases hak : a = k
    · subst hak
      rw [show (⟨g.e, cur, true, hOf g⟩ :: sn : List Sn).reverse[a]? = some ⟨g.e, cur, true, hOf g⟩ by rw [← hlen]; exact rev_head] at hs
      obtain rfl := Option.some.inj hs
      rw [h5, updN_ne (by omega), C.top]
      refine ⟨fun j => ?_, rfl, fun h => (nomatch h), fun y hy => ?_⟩
      rotate_left
      · have hes : g.es = [] ∧ y = (g.b, g.k) := by
          obtain ⟨gb, gk, gt, es, ge, gi⟩ := g
          cases es with
          | nil => exact ⟨rfl, (Option.some.inj hy).symm⟩
          | cons _ _ => exact nomatch hy
        obtain ⟨hes, rfl⟩ := hes
        refine ⟨s, k1, by rw [h3, updN_same], ?_, by rw [h6]; exact k4⟩
        rw [h7]
        rw [hes] at k5
        exact List.map_eq_nil_iff.1 k5
      rw [hlev]
      show g.e.testBit j = true ↔ _
      rw [k6 j]
      exact ⟨fun h => .inr ⟨rfl, h⟩, fun h => h.elim (fun h => by have := C.levk h; omega) (·.2)⟩
    · have hlt := (List.getElem?_eq_some_iff.1 hs).1
      simp only [List.length_reverse, List.length_cons] at hlt
      rw [rev_tail (by omega)] at hs
      obtain ⟨e1, e2, e3, e4⟩ := N.sns a t hs
      rw [h4, h5, updN_ne hak, updN_ne (by omega)]
      refine ⟨fun j => ?_, e2, e3, fun y hy => ?_⟩
      rotate_left
      · obtain ⟨u, f1, f2, f3, f4⟩ := e4 y hy
        exact ⟨u, f1, by rw [h3, updN_ne (by rintro rfl; rw [k3] at f2; exact nomatch f2)]; exact f2, by rw [h7]; exact f3, by rw [h6]; exact f4⟩
      rw [e1 j, hlev]
      exact ⟨.inl, fun h => h.elim id fun h => absurd h.1 hak⟩
  · rw [h3] at hcs
    have hts : t ≠ s := by rintro rfl; rw [updN_same] at hcs; exact nomatch hcs
    rw [updN_ne hts] at hcs
    exact keepL_mem (N.rss t ha hcs) ((beq_false _ _).2 (by omega))
  · have hb : h.b ≠ g.b := by
      rcases List.mem_append.1 hh with hh | hh
      · exact n3 _ (List.mem_map.2 ⟨h, hh, rfl⟩) _ (.head _)
      · exact fun e => n2.1 (List.mem_map.2 ⟨h, hh, e⟩)
    have hh2 : h ∈ hd ++ g :: r := by
      rcases List.mem_append.1 hh with hh | hh
      · exact List.mem_append_left _ hh
      · exact List.mem_append_right _ (.tail _ hh)
    obtain ⟨t, e1, e0, e2, e3, e4, e5, e6, e7⟩ := N.grs h hh2
    have hts : t ≠ s := by rintro rfl; exact hb (e1.trans k1.symm)
    refine ⟨t, e1, e0, ?_, ?_, ?_, ?_, fun j => ?_, ?_⟩
    · rw [h2]; exact e2
    · rw [h3, updN_ne hts]; exact e3
    · rw [h6]; exact e4
    · rw [h7]; exact e5
    · rw [h2]; exact e6 j
    · rw [h8]; exact e7
  · rw [List.map_append, List.nodup_append]
    exact ⟨n1, n2.2, fun a ha b hb => n3 a ha b (.tail _ hb)⟩
  · rw [h2] at hrd
    rw [h1]
    rcases N.wss j o' hj ho' hrd with ⟨e, b, he, hanc⟩ | h | h
    · exact .inl ⟨e, b, (hlev e b).2 (.inl he), hanc⟩
    · exact .inr (.inl h)
    · exact .inr (.inr h)

/-- blocks are shut -/
theorem shut_ok {α : Type} (hin : i ≤ ops.size) (f : Gr → Bool) : ∀ (gs : List Gr) (hd : List Gr) (kf : List Sn → List Nat → List Gr → Mem → α) (sn : List Sn) (rs : List Nat) (k : Nat) (D : Data) (cur : Mem), Cert P ρ ops n env0 m0 i k D cur → Mind P ρ ops n env0 m0 i k D sn rs (hd ++ gs) ws →
    ∃ k' D' cur' sn' rs' gs', shutW f gs kf sn rs cur = kf sn' rs' gs' cur' ∧ Cert P ρ ops n env0 m0 i k' D' cur' ∧ Mind P ρ ops n env0 m0 i k' D' sn' rs' (hd ++ gs') ws ∧ D'.val = D.val
  | [], hd, kf, sn, rs, k, D, cur, C, N => ⟨k, D, cur, sn, rs, [], rfl, C, N, rfl⟩
  | g :: gs, hd, kf, sn, rs, k, D, cur, C, N => by
    have e : shutW f (g :: gs) kf sn rs cur = selB (f g) (shutW f gs kf (⟨g.e, cur, true, hOf g⟩ :: sn) (keepL (fun b => Nat.beq b g.b) rs) (setB cur g.b (shutB g))) (shutW f gs (fun sn rs gs m => kf sn rs (g :: gs) m) sn rs cur) := rfl
    rw [e]
    cases f g with
    | true =>
      obtain ⟨D1, C1, N1, h1⟩ := shut_one C hin N
      obtain ⟨k', D', cur', sn', rs', gs', h2, C2, N2, h3⟩ := shut_ok hin f gs hd kf _ _ _ D1 _ C1 N1
      exact ⟨k', D', cur', sn', rs', gs', h2, C2, N2, h3.trans h1⟩
    | false =>
      obtain ⟨k', D', cur', sn', rs', gs', h2, C2, N2, h3⟩ := shut_ok hin f gs (hd ++ [g]) (fun sn rs gs m => kf sn rs (g :: gs) m) sn rs k D cur C (by rw [List.append_assoc]; exact N)
      exact ⟨k', D', cur', sn', rs', g :: gs', h2, C2, by rw [List.append_assoc] at N2; exact N2, h3⟩
/-- on from here all is well -/
def Goes (P : Program) (ρ : Nat → Int) (ops : Array Oper) (n : Nat) (env0 : Env) (m0 : Mem) (i : Nat) (kk : Kn) (r : Rs Env) (Z : Prop) : Prop :=
  ∀ (k : Nat) (D : Data) (cur : Mem) (sn : List Sn) (rs : List Nat) (gs : List Gr) (ws : List Wt) (p : Pc), PcR ρ p → Cert P ρ ops n env0 m0 i k D cur → Mind P ρ ops n env0 m0 i k D sn rs gs ws → (kk (envT ops D.val env0 i) sn rs gs ws cur p).out ρ = some r → Z

section ev
variable {kk : Kn} {r : Rs Env} {Z : Prop} {p : Pc}

theorem env_next (ho : ops[i]? = some o) {val : Nat → V} (v : V) : envT ops (updN val i v) env0 (i + 1) = putE o.dst (envT ops val env0 i) v := by
  rw [envT, envT_upd (Nat.le_refl _), updN_same]
  unfold dstAt; rw [ho]; rfl

theorem layL_sub {u : Mem} : ∀ {acc : List (Nat × Blk)} {d : Mem}, MemSub u d → (∀ y ∈ acc, u.tr.get y.1 = some y.2) → MemSub u (layL acc d)
  | [], _, h, _ => h
  | y :: acc, d, h, hy => by
    have ih := layL_sub (acc := acc) h fun z hz => hy z (.tail _ hz)
    refine ⟨ih.1, ih.2, ih.3, fun i b hb => ?_⟩
    have hb : (setB (layL acc d) y.1 y.2).tr.get i = some b := hb
    rw [setB_get] at hb
    by_cases e : i = y.1
    · rw [if_pos e] at hb
      rw [e, ← hb]; exact hy y (.head _)
    · rw [if_neg e] at hb
      exact ih.4 i b hb

theorem addH_mem {s : Sn} {acc : List (Nat × Blk)} {y : Nat × Blk} (h : y ∈ addH A s acc) : y ∈ acc ∨ s.h = some y ∧ subN s.e A = true := by
  obtain ⟨e, m, g, o⟩ := s
  cases o with
  | none => exact .inl h
  | some z =>
    have h : y ∈ selB (subN e A) (z :: acc) acc := h
    cases hs : subN e A with
    | false => rw [hs] at h; exact .inl h
    | true =>
      rw [hs] at h
      rcases List.mem_cons.1 (show y ∈ z :: acc from h) with rfl | h
      · exact .inr ⟨rfl, rfl⟩
      · exact .inl h

theorem rdSame_ok {f : R V} {v : V} : ∀ {sn : List Sn} {acc : List (Nat × Blk)} {x : Nat} {s : Sn}, rdSame f v p A sn acc = true → sn.reverse[x]? = some s →
    subN s.e A = true ∨ ∃ acc', sameAt f v p (layL acc' s.m) = true ∧ ∀ y ∈ acc', y ∈ acc ∨ ∃ a t, x ≤ a ∧ sn.reverse[a]? = some t ∧ t.h = some y ∧ subN t.e A = true
  | [], _, _, _, _, h => by simp at h
  | t :: r, acc, x, s, h, hx => by
    obtain ⟨h1, h2⟩ := andB_ok (show andB (orB (subN t.e A) (sameAt f v p (layL (addH A t acc) t.m))) (rdSame f v p A r (addH A t acc)) = true from h)
    have hlt := (List.getElem?_eq_some_iff.1 hx).1
    simp only [List.length_reverse, List.length_cons] at hlt
    by_cases hxr : x = r.length
    · subst hxr
      rw [rev_head] at hx
      obtain rfl := Option.some.inj hx
      rcases orB_ok h1 with h1 | h1
      · exact .inl h1
      · refine .inr ⟨_, h1, fun y hy => ?_⟩
        rcases addH_mem hy with h3 | ⟨h3, h4⟩
        · exact .inl h3
        · exact .inr ⟨r.length, _, Nat.le_refl _, rev_head, h3, h4⟩
    · rw [rev_tail (by omega)] at hx
      rcases rdSame_ok h2 hx with h3 | ⟨acc', h3, h4⟩
      · exact .inl h3
      · refine .inr ⟨acc', h3, fun y hy => ?_⟩
        rcases h4 y hy with h5 | ⟨a, u, h5, h6, h7, h8⟩
        · rcases addH_mem h5 with h6 | ⟨h6, h7⟩
          · exact .inl h6
          · exact .inr ⟨r.length, t, by omega, rev_head, h6, h7⟩
        · have := (List.getElem?_eq_some_iff.1 h6).1
          simp only [List.length_reverse] at this
          exact .inr ⟨a, u, h5, by rw [rev_tail this]; exact h6, h7, h8⟩

theorem drRdT_ok (C : Cert P ρ ops n env0 m0 i k D cur) (N : Mind P ρ ops n env0 m0 i k D sn rs gs ws) (hp : PcR ρ p) (ho : ops[i]? = some o) (hA : ∀ b, A.testBit b = true → Anc ops i b) {f : R V}
    (hdo : ∀ (p1 q1 : Pc) (u d : Mem) (v : V), PcR ρ p1 → MemSub u d → f.gives ρ d p1 v q1 → Does P ρ ops n o (envT ops D.val env0 i) u v u)
    (hk : Goes P ρ ops n env0 m0 (i + 1) kk r Z) (h : (drRdT o.dst n i A (envT ops D.val env0 i) sn rs gs ws f kk (f cur p) cur p).out ρ = some r) : Z := by
  obtain ⟨⟨v, pv⟩, p2, h2, hp2, h⟩ := T.out_bndpq hp (show ((f cur p).bndpq p fun v p => selB (rdSame f v p A sn [])
      (selB (slotOk o.dst n) (kk (putE o.dst (envT ops D.val env0 i) v) sn rs gs (⟨i, f, v, p⟩ :: ws) cur p) (.fail "a slot beyond the frame"))
      (.fail "an operation that may read another value")).out ρ = some r from h)
  obtain ⟨h3, h⟩ := T.out_selB h
  obtain ⟨h4, h⟩ := T.out_selB h
  have C' := C.addRd (v := v) ho h4 (fun x hx hpos u hu hh => by
    by_cases hxk : x = k
    · subst hxk
      rw [C.top] at hu
      exact hdo p pv u cur v hp hu h2
    · rcases hpos with hpos | ⟨e, he, hn⟩
      · exact absurd hpos hxk
      · have hs1 : x < sn.reverse.length := by rw [List.length_reverse, N.len]; omega
        obtain ⟨g1, g2, _⟩ := N.sns x _ (List.getElem?_eq_getElem hs1)
        rcases rdSame_ok h3 (List.getElem?_eq_getElem hs1) with hb | ⟨acc, hb, hacc⟩
        · exact absurd (hA _ (subN_bit hb ((g1 e).2 he))) hn
        · obtain ⟨q1, hq1⟩ := sameAt_ok (ρ := ρ) hb
          refine hdo p2 q1 u _ v hp2 (layL_sub (by rw [g2]; exact hu) fun y hy => ?_) hq1
          rcases hacc y hy with h | ⟨a, t, h5, h6, h7, h8⟩
          · exact nomatch h
          · obtain ⟨j1, _, _, j4⟩ := N.sns a t h6
            obtain ⟨u', f1, f2, f3, f4⟩ := j4 y h7
            rw [f1, ← f4]
            refine hh u' a f2 h5 f3 (hA _ (subN_bit h8 ((j1 u').2 ?_)))
            have hmk : D.cl u' = .mk := Classical.byContradiction fun hc => by rw [C.cfresh u' hc] at f2; exact nomatch f2
            unfold Data.lev; rw [hmk]; exact f2)
  have N' := N.addRd (v := v) C ho (ws' := ⟨i, f, v, p2⟩ :: ws) (fun w hw => .tail _ hw) (.inr ⟨_, .head _, rfl, hp2, fun u d q1 hs hq1 => hdo p2 q1 u d v hp2 hs hq1⟩)
  refine hk _ _ _ _ _ _ _ p2 hp2 C' N' ?_
  dsimp only
  rw [env_next ho]
  exact h

theorem drRd_ok (hin : i ≤ ops.size) (C : Cert P ρ ops n env0 m0 i k D cur) (N : Mind P ρ ops n env0 m0 i k D sn rs gs ws) (hp : PcR ρ p) (ho : ops[i]? = some o) (hA : ∀ b, A.testBit b = true → Anc ops i b) {f : R V}
    (hdo : ∀ (p1 q1 : Pc) (u d : Mem) (v : V), PcR ρ p1 → MemSub u d → f.gives ρ d p1 v q1 → Does P ρ ops n o (envT ops D.val env0 i) u v u)
    (hk : Goes P ρ ops n env0 m0 (i + 1) kk r Z) (h : (drRd o.dst n i A (envT ops D.val env0 i) sn rs gs ws f kk cur p).out ρ = some r) : Z := by
  have h : (T.rec (fun a => drRdT o.dst n i A (envT ops D.val env0 i) sn rs gs ws f kk (.ret a) cur p) (fun c x y _ _ => drRdT o.dst n i A (envT ops D.val env0 i) sn rs gs ws f kk (.br c x y) cur p)
      (fun _ => shutW (fun g => subN g.e A) gs (fun sn rs gs m => drRdT o.dst n i A (envT ops D.val env0 i) sn rs gs ws f kk (f m p) m p) sn rs cur) (f cur p) : T (Rs Env)).out ρ = some r := h
  cases hf : f cur p with
  | ret a => rw [hf] at h; exact drRdT_ok C N hp ho hA hdo hk (by rw [hf]; exact h)
  | br c x y => rw [hf] at h; exact drRdT_ok C N hp ho hA hdo hk (by rw [hf]; exact h)
  | fail s =>
    rw [hf] at h
    obtain ⟨k', D', cur', sn', rs', gs', h2, C2, N2, h3⟩ := shut_ok hin (fun g => subN g.e A) gs [] (fun sn rs gs m => drRdT o.dst n i A (envT ops D.val env0 i) sn rs gs ws f kk (f m p) m p) sn rs k D cur C N
    have h : (shutW (fun g => subN g.e A) gs (fun sn rs gs m => drRdT o.dst n i A (envT ops D.val env0 i) sn rs gs ws f kk (f m p) m p) sn rs cur).out ρ = some r := h
    rw [h2, ← h3] at h
    exact drRdT_ok C2 N2 hp ho hA (by rw [h3]; exact hdo) hk h

theorem drEf0_ok (C : Cert P ρ ops n env0 m0 i k D cur) (N : Mind P ρ ops n env0 m0 i k D sn rs gs ws) (hp : PcR ρ p) (ho : ops[i]? = some o) (hA : ∀ b, A.testBit b = true → Anc ops i b) {f : M V}
    (hf : ∀ (p1 q1 : Pc) (v : V) (u u' : Mem), PcR ρ p1 → f.gives ρ u p1 v u' q1 → Does P ρ ops n o (envT ops D.val env0 i) u v u')
    (hk : Goes P ρ ops n env0 m0 (i + 1) kk r Z) (h : (drEf0 o.dst n i A (envT ops D.val env0 i) ws f kk sn rs gs cur p).out ρ = some r) : Z := by
  obtain ⟨h1, h⟩ := T.out_selB h
  obtain ⟨⟨v, m1, pv⟩, p2, h2, hp2, h⟩ := T.out_bndq hp h
  obtain ⟨h3, h⟩ := T.out_selB h
  obtain ⟨h4, h⟩ := T.out_selB h
  obtain ⟨h5, h6⟩ := andB_ok h3
  have hall : ∀ e b, D.lev e = some b → Anc ops i e := fun e b he => anc_of_last C hA N.sns (Nat.le_of_eq N.len) h1 e b he (by rw [N.len]; exact C.levk he)
  have C' := C.addEf ho h4 (hf p pv v cur m1 hp h2) hall (fun s ha hc => by
      have := allL_ok h6 _ (N.rss s ha hc)
      dsimp only at this
      cases hg : m1.tr.get (m0.nb + s) with
      | none => rfl
      | some b => rw [hg] at this; exact nomatch this)
    (fun j o' hj ho' hrd => by
      rcases N.wss j o' hj ho' hrd with ⟨e, b, he, hanc⟩ | h | ⟨w, hw, rfl, hwp, hwd⟩
      · exact .inl ⟨e, b, he, hanc⟩
      · exact .inr (.inr fun u _ => h u)
      · rcases orB_ok (allL_ok h5 w hw) with h7 | h7
        · exact .inr (.inl (hA _ (bitB_iff h7)))
        · obtain ⟨q, hq⟩ := sameAt_ok (ρ := ρ) h7
          exact .inr (.inr fun u hu => hwd u m1 q hu hq))
  have N' := N.addEf (v := v) (m1 := m1) C hA
  refine hk _ _ _ _ _ _ _ p2 hp2 C' N' ?_
  dsimp only
  rw [env_next ho]
  exact h

theorem drEf_ok (hin : i ≤ ops.size) (C : Cert P ρ ops n env0 m0 i k D cur) (N : Mind P ρ ops n env0 m0 i k D sn rs gs ws) (hp : PcR ρ p) (ho : ops[i]? = some o) (hA : ∀ b, A.testBit b = true → Anc ops i b) {f : M V}
    (hf : ∀ (p1 q1 : Pc) (v : V) (u u' : Mem), PcR ρ p1 → f.gives ρ u p1 v u' q1 → Does P ρ ops n o (envT ops D.val env0 i) u v u')
    (hk : Goes P ρ ops n env0 m0 (i + 1) kk r Z) (h : (drEf o.dst n i A (envT ops D.val env0 i) sn rs gs ws f kk cur p).out ρ = some r) : Z := by
  obtain ⟨k', D', cur', sn', rs', gs', h2, C2, N2, h3⟩ := shut_ok hin (fun g => subN g.e A) gs [] (fun sn rs gs m => drEf0 o.dst n i A (envT ops D.val env0 i) ws f kk sn rs gs m p) sn rs k D cur C N
  have h : (shutW (fun g => subN g.e A) gs (fun sn rs gs m => drEf0 o.dst n i A (envT ops D.val env0 i) ws f kk sn rs gs m p) sn rs cur).out ρ = some r := h
  rw [h2, ← h3] at h
  exact drEf0_ok C2 N2 hp ho hA (by rw [h3]; exact hf) hk h

theorem drAl_ok (C : Cert P ρ ops n env0 m0 i k D cur) (N : Mind P ρ ops n env0 m0 i k D sn rs gs ws) (hp : PcR ρ p) (ho : ops[i]? = some o) (hal : isAl o.op = true) {f : R (Blk × Shp)} {kt : Option TypeId}
    (hw : ∀ (p1 q1 : Pc) (m : Mem) (bs : Blk × Shp), PcR ρ p1 → f.gives ρ m p1 bs q1 → bs.1.wrB = true ∧ (∀ t, kt = some t → bs.1 = .map [] 0 true) ∧ ∀ (u : Mem) (b : Nat), u.tr.get b = some .rsv → m0.nb ≤ b → DoesN m0.nb P ρ ops n o (envT ops D.val env0 i) u (bs.2.val b) (setB u b bs.1))
    (hk : Goes P ρ ops n env0 m0 (i + 1) kk r Z) (h : (drAl o.dst n i (m0.nb + i) (envT ops D.val env0 i) sn rs gs ws kt f kk cur p).out ρ = some r) : Z := by
  obtain ⟨⟨bs, pv⟩, p2, h2, hp2, h⟩ := T.out_bndpq hp (show ((f cur p).bndpq p fun bs p => selB (slotOk o.dst n) (kk (putE o.dst (envT ops D.val env0 i) (bs.2.val (m0.nb + i))) sn rs (⟨m0.nb + i, bs.1, kt, [], Nat.pow 2 i, i⟩ :: gs) ws cur p) (.fail "a slot beyond the frame")).out ρ = some r from h)
  obtain ⟨h4, h⟩ := T.out_selB h
  obtain ⟨w1, w2, w3⟩ := hw p pv cur bs hp h2
  have C' := C.addMk (v := bs.2.val (m0.nb + i)) (kt := kt.getD 0) ho h4 hal w1 (fun u hu => w3 u _ hu (Nat.le_add_right _ _))
  have N' := N.addMk (v := bs.2.val (m0.nb + i)) (B := bs.1) (kt := kt) C ho w2
  refine hk _ _ _ _ _ _ _ p2 hp2 C' N' ?_
  dsimp only
  rw [env_next ho]
  exact h

theorem findG_some {f : Gr → Bool} {g : Gr} : ∀ {gs : List Gr}, findG f gs = some g → g ∈ gs ∧ f g = true
  | [], h => nomatch (show none = some g from h)
  | x :: gs, h => by
    have h : selB (f x) (some x) (findG f gs) = some g := h
    cases hx : f x with
    | true => rw [hx] at h; obtain rfl := Option.some.inj h; exact ⟨.head _, hx⟩
    | false => rw [hx] at h; obtain ⟨h1, h2⟩ := findG_some (gs := gs) h; exact ⟨.tail _ h1, h2⟩

theorem drIn_ok (C : Cert P ρ ops n env0 m0 i k D cur) (N : Mind P ρ ops n env0 m0 i k D sn rs gs ws) (hp : PcR ρ p) (ho : ops[i]? = some o) (hA : ∀ b, A.testBit b = true → Anc ops i b) {x : Ins} {g : Gr} (hg : findG (isIns x) gs = some g) (hkt : keyOK P x.kt = true)
    (hi : ∀ (u : Mem) (B : Blk) (es : List (V × V)), u.tr.get x.b = some B → MapB B es → (∀ e ∈ es, Apart P x.kt ρ x.k e.1) → Does P ρ ops n o (envT ops D.val env0 i) u undefV (setB u x.b (.pm (es ++ [(x.k, x.v)]) true)))
    (hk : Goes P ρ ops n env0 m0 (i + 1) kk r Z) (h : (drIn P o.dst n i A (envT ops D.val env0 i) sn rs gs ws x g kk cur p).out ρ = some r) : Z := by
  obtain ⟨h1, h⟩ := T.out_selB h
  obtain ⟨h2, h⟩ := T.out_selB h
  obtain ⟨h3, h⟩ := T.out_selB h
  obtain ⟨hgm, hgi⟩ := findG_some hg
  obtain ⟨e1, e2⟩ := andB_ok hgi
  rw [beq_iff] at e1
  obtain ⟨s, k1, k0, k2, k3, k4, k5, k6, k7⟩ := N.grs g hgm
  obtain ⟨hcon, hdk⟩ : g.k = .map [] 0 true ∧ D.kt s = x.kt := by
    cases hgk : g.kt with
    | none => rw [hgk] at e2; exact nomatch e2
    | some t =>
      rw [hgk] at e2
      have e2 : Nat.beq t x.kt = true := e2
      rw [beq_iff] at e2
      rw [← e2]
      exact k7 t hgk
  have hxb : x.b = m0.nb + s := e1.symm.trans k1
  have hanc : Anc ops i s := by
    have := hA _ (bitB_iff h1)
    rw [k0] at this; exact this
  have C' := C.addIns (v := undefV) (kv := (x.k, x.v)) ho h3 k2 k3 hanc (k4.trans hcon) (by
      rw [hdk, ← hxb]
      exact fun u B es e3 e4 e5 => hi u B es e3 e4 e5) (fun e he => by
      rw [k5] at he
      rw [hdk]
      obtain ⟨h7, h8⟩ := andB_ok (allL_ok h2 e he)
      exact ⟨isNo_ok hkt hp h7, isNo_ok hkt hp h8⟩)
  have N' := N.addIns (v := undefV) (kv := (x.k, x.v)) C ho k3
  refine hk _ _ _ _ _ _ _ p hp C' N' ?_
  dsimp only
  rw [env_next ho, ← hxb]
  exact h
end ev

theorem al_isAl {cf : FuncId → List V → M V} {env : Env} {f : R (Blk × Shp)} (hk : evKind o.op P cf env = .al f) : isAl o.op = true := by
  cases ho : o.op <;> rw [ho] at hk <;> first | rfl | exact (Kd.rd_al hk).elim | exact (Kd.ef_al hk).elim | skip
  case call cl =>
    cases hc : cl.callee with
    | value g => rw [show evKind (Op.call cl) = hCall cl from rfl] at hk; unfold hCall at hk; rw [hc] at hk; exact (Kd.ef_al hk).elim
    | invoke r nm => rw [show evKind (Op.call cl) = hCall cl from rfl] at hk; unfold hCall at hk; rw [hc] at hk; exact (Kd.ef_al hk).elim
    | builtin b =>
      rw [show evKind (Op.call cl) = hCall cl from rfl] at hk; unfold hCall at hk; rw [hc] at hk
      cases b <;> first | exact (Kd.ef_al hk).elim | exact (Kd.rd_al hk).elim

theorem al_new {cf : FuncId → List V → M V} {env : Env} {f : R (Blk × Shp)} {m : Mem} {p q : Pc} {bs : Blk × Shp} (hk : evKind o.op P cf env = .al f) (h : f.gives ρ m p bs q) : bs.1.wrB = true ∧ ∀ t, mkOf o.op P = some t → bs.1 = .map [] 0 true := by
  have no : ∀ (op : Op), mkOf op P = none → ∀ t, mkOf op P = some t → bs.1 = .map [] 0 true := fun op h t ht => by rw [h] at ht; exact nomatch ht
  cases ho : o.op <;> rw [ho] at hk <;> first | exact (Kd.rd_al hk).elim | exact (Kd.ef_al hk).elim | skip
  case alloc t =>
    have hk : Kd.al (R.opt "alloc no zero" ((zeroOf P t).map fun z => (newCells z.cells, Shp.ptr))) = .al f := hk
    simp only [Kd.al.injEq] at hk; subst hk
    obtain ⟨h1, rfl⟩ := R.gives_opt h
    obtain ⟨z, hz, rfl⟩ := Option.map_eq_some_iff.1 h1
    exact ⟨rfl, no _ rfl⟩
  case box t x =>
    have hk : Kd.al (selB (allCells (opd x env).cells) (R.pure (newCells (opd x env).cells, Shp.ptr)) (R.fail "box")) = .al f := hk
    simp only [Kd.al.injEq] at hk; subst hk
    obtain ⟨h1, h2⟩ := R.gives_if h
    obtain ⟨rfl, rfl⟩ := R.gives_pure h2
    exact ⟨rfl, no _ rfl⟩
  case buildSlice t k ps =>
    have hk : Kd.al (buildSliceR P t k (partsV ps.toList env)) = .al f := hk
    simp only [Kd.al.injEq] at hk; subst hk
    unfold buildSliceR at h
    cases ha : slcOf P t with
    | none => rw [ha] at h; exact (R.gives_fail h).elim
    | some a =>
      rw [ha] at h
      obtain ⟨h1, rfl⟩ := R.gives_opt (show (R.opt "buildSlice" ((sliceLit k a.2 (partsV ps.toList env) (zcells P a.1 a.2 k)).map fun l => (newCells l, Shp.slice k k))).gives ρ m p bs q from h)
      obtain ⟨r, h2, rfl⟩ := Option.map_eq_some_iff.1 h1
      exact ⟨rfl, no _ rfl⟩
  case convert s d x =>
    have hk : (Bool.rec (Bool.rec (Kd.rd (convR P s d (opd x env))) (.ef (markM (opd x env))) (markT P s d)) (.ef (bytesM P d (opd x env))) (toSlice P s d) : Kd) = .al f := hk
    cases hs : toSlice P s d <;> rw [hs] at hk
    · cases hmk : markT P s d <;> rw [hmk] at hk
      · exact (Kd.rd_al hk).elim
      · exact (Kd.ef_al hk).elim
    · exact (Kd.ef_al hk).elim
  case makeMap t r =>
    have hk : Kd.al (Option.rec (R.pure (.map [] 0 true, .map)) (fun x => onInt (opd x env) (fun _ _ => selB (isMapT P t) (R.pure (.map [] 0 true, .map)) (R.fail "makeMap")) (R.fail "makeMap")) r : R (Blk × Shp)) = .al f := hk
    simp only [Kd.al.injEq] at hk; subst hk
    cases r with
    | none =>
      obtain ⟨rfl, rfl⟩ := R.gives_pure (show (R.pure (Blk.map [] 0 true, Shp.map)).gives ρ m p bs q from h)
      exact ⟨rfl, fun _ _ => rfl⟩
    | some x =>
      obtain ⟨_, _, _, h1⟩ := onInt_gives (show (onInt (opd x env) (fun _ _ => selB (isMapT P t) (R.pure (.map [] 0 true, .map)) (R.fail "makeMap")) (R.fail "makeMap")).gives ρ m p bs q from h)
      obtain ⟨_, h2⟩ := R.gives_if h1
      obtain ⟨rfl, rfl⟩ := R.gives_pure h2
      exact ⟨rfl, fun _ _ => rfl⟩
  case makeSlice t l k =>
    have hk : Kd.al (makeSliceR P t (opd l env) (opd k env)) = .al f := hk
    simp only [Kd.al.injEq] at hk; subst hk
    unfold makeSliceR at h
    cases ha : elemInfo P t with
    | none => rw [ha] at h; exact (R.gives_fail h).elim
    | some a =>
      rw [ha] at h
      have h : (onInt (opd l env) (fun _ el => onInt (opd k env) (fun _ ec => (splitE el).bnd fun el => (natR el).bnd fun len => (splitE ec).bnd fun ec => (natR ec).bnd fun cap => makeSliceL P len cap a) (R.fail "makeSlice")) (R.fail "makeSlice")).gives ρ m p bs q := h
      obtain ⟨_, _, _, h1⟩ := onInt_gives h
      obtain ⟨_, _, _, h2⟩ := onInt_gives h1
      obtain ⟨_, _, _, h2⟩ := R.gives_bnd h2
      obtain ⟨len, _, _, h3⟩ := R.gives_bnd h2
      obtain ⟨_, _, _, h3⟩ := R.gives_bnd h3
      obtain ⟨cap, _, _, h4⟩ := R.gives_bnd h3
      unfold makeSliceL at h4
      cases hz : zcells P a.1 a.2.1 cap with
      | none => rw [hz] at h4; exact (R.gives_fail h4).elim
      | some z =>
        rw [hz] at h4
        obtain ⟨_, h5⟩ := R.gives_if (show (selB (andB (Nat.ble len cap) (andB (Nat.ble cap 1099511627776) (Nat.ble (Nat.mul a.2.2 cap) 1099511627776))) (R.pure (newCells (repl cap z), Shp.slice len cap)) (R.fail "makeSlice great")).gives ρ m _ bs q from h4)
        obtain ⟨rfl, rfl⟩ := R.gives_pure h5
        exact ⟨rfl, no _ rfl⟩
  case call cl =>
    cases hc : cl.callee with
    | value g => rw [show evKind (Op.call cl) = hCall cl from rfl] at hk; unfold hCall at hk; rw [hc] at hk; exact (Kd.ef_al hk).elim
    | invoke r nm => rw [show evKind (Op.call cl) = hCall cl from rfl] at hk; unfold hCall at hk; rw [hc] at hk; exact (Kd.ef_al hk).elim
    | builtin b =>
      rw [show evKind (Op.call cl) = hCall cl from rfl] at hk; unfold hCall at hk; rw [hc] at hk
      cases b <;> first | exact (Kd.ef_al hk).elim | exact (Kd.rd_al hk).elim

theorem convD_some {op : Op} {env : Env} {k : Kd} (h : convD op P env = some k) :
    (∃ s d x, op = .convert s d x ∧ toSlice P s d = true ∧ k = .al (bytesR P d (opd x env))) ∨ (∃ s d x, op = .convert s d x ∧ toSlice P s d = false ∧ markT P s d = true ∧ k = .rd (markR (opd x env))) ∨
    (∃ t j ps, op = .buildSlice t j ps ∧ k = .al (buildD P t j (partsV ps.toList env))) := by
  cases op with
  | convert s d x =>
    have h : selB (toSlice P s d) (some (Kd.al (bytesR P d (opd x env)))) (selB (markT P s d) (some (.rd (markR (opd x env)))) none) = some k := h
    cases ht : toSlice P s d with
    | false =>
      rw [ht] at h
      have h : selB (markT P s d) (some (Kd.rd (markR (opd x env)))) none = some k := h
      cases hm : markT P s d with
      | false => rw [hm] at h; exact nomatch (show (none : Option Kd) = some k from h)
      | true => rw [hm] at h; exact .inr (.inl ⟨s, d, x, rfl, ht, hm, (Option.some.inj (show some (Kd.rd (markR (opd x env))) = some k from h)).symm⟩)
    | true => rw [ht] at h; exact .inl ⟨s, d, x, rfl, ht, (Option.some.inj (show some (Kd.al (bytesR P d (opd x env))) = some k from h)).symm⟩
  | buildSlice t j ps =>
    have h : selB (byteSl P t) (some (Kd.al (buildD P t j (partsV ps.toList env)))) none = some k := h
    cases hm : byteSl P t with
    | false => rw [hm] at h; exact nomatch (show (none : Option Kd) = some k from h)
    | true => rw [hm] at h; exact .inr (.inr ⟨t, j, ps, rfl, (Option.some.inj (show some (Kd.al (buildD P t j (partsV ps.toList env))) = some k from h)).symm⟩)
  | _ => exact nomatch (show (none : Option Kd) = some k from h)

theorem evKindD_cases {op : Op} {cf : FuncId → List V → M V} {env : Env} : evKindD op P cf env = evKind op P cf env ∨ ∃ k, convD op P env = some k ∧ evKindD op P cf env = k := by
  unfold evKindD
  cases h : convD op P env with
  | none => exact .inl rfl
  | some f => exact .inr ⟨f, rfl, rfl⟩

theorem evKindD_ef {op : Op} {cf : FuncId → List V → M V} {env : Env} {f : M V} (hk : evKindD op P cf env = .ef f) : evKind op P cf env = .ef f := by
  rcases evKindD_cases (op := op) (P := P) (cf := cf) (env := env) with h | ⟨k, h1, h⟩
  · rw [← h]; exact hk
  · rw [h] at hk
    subst hk
    rcases convD_some h1 with ⟨_, _, _, _, _, e⟩ | ⟨_, _, _, _, _, _, e⟩ | ⟨_, _, _, _, e⟩ <;> cases e

theorem alD_isAl {cf : FuncId → List V → M V} {env : Env} {f : R (Blk × Shp)} (hk : evKindD o.op P cf env = .al f) : isAl o.op = true := by
  rcases evKindD_cases (op := o.op) (P := P) (cf := cf) (env := env) with h | ⟨k, h1, h⟩
  · exact al_isAl (h ▸ hk)
  · rcases convD_some h1 with ⟨_, _, _, e, _⟩ | ⟨_, _, _, e, _⟩ | ⟨_, _, _, e, _⟩ <;> (rw [e]; rfl)

theorem plOff_wr (b : Blk) : (plOff b).wrB = b.wrB := by cases b <;> rfl

theorem alD_new {cf : FuncId → List V → M V} {env : Env} {f : R (Blk × Shp)} {m : Mem} {p q : Pc} {bs : Blk × Shp} (hk : evKindD o.op P cf env = .al f) (h : f.gives ρ m p bs q) : bs.1.wrB = true ∧ ∀ t, mkOf o.op P = some t → bs.1 = .map [] 0 true := by
  rcases evKindD_cases (op := o.op) (P := P) (cf := cf) (env := env) with h1 | ⟨k, h1, h2⟩
  · exact al_new (h1 ▸ hk) h
  · rw [h2] at hk
    subst hk
    rcases convD_some h1 with ⟨s, d, x, h3, _, e⟩ | ⟨_, _, _, _, _, _, e⟩ | ⟨t, j, ps, h3, e⟩
    · injection e with e; subst e
      obtain ⟨l, rfl⟩ := bytesR_gives h
      exact ⟨rfl, fun t ht => by rw [h3] at ht; exact nomatch (show (none : Option TypeId) = some t from ht)⟩
    · cases e
    · injection e with e; subst e
      obtain ⟨bs0, q0, h4, h5⟩ := R.gives_bnd h
      obtain ⟨rfl, rfl⟩ := R.gives_pure h5
      have h6 := al_new (o := o) (P := P) (cf := cf) (env := env) (f := buildSliceR P t j (partsV ps.toList env)) (by rw [h3]; rfl) h4
      exact ⟨by rw [plOff_wr]; exact h6.1, fun t' ht => by rw [h3] at ht; exact nomatch (show (none : Option TypeId) = some t' from ht)⟩

theorem Step.unset {c c' : Cx} {u : Mem} {w w' : World} {i : Nat} {b : Blk} (hg : u.tr.get i = some b) (s : Step c u w c' ⟨u.tr.set i b, u.nb, u.tok, u.nt⟩ w') : Step c u w c' u w' := by
  have e : ∀ j, (u.tr.set i b).get j = u.tr.get j := by
    intro j
    rw [Tr.get_set]
    split
    · rename_i h; subst h; exact hg.symm
    · rfl
  refine ⟨⟨s.rel.nb, s.rel.nt, fun j x h => s.rel.blk j x (by rw [← e] at h; exact h), fun i j b b' h h' => s.rel.inj i j b b' (by rw [← e] at h; exact h) (by rw [← e] at h'; exact h'), s.rel.tok⟩, s.le, s.os, s.tape, s.output, s.size, s.frame, ?_, ?_⟩
  · rintro y ⟨j, x, h1, h2⟩
    exact s.wr y ⟨j, x, by rw [← e] at h1; exact h1, h2⟩
  · rintro y ⟨j, x, h1, h2⟩
    exact s.ad y ⟨j, x, by rw [← e] at h1; exact h1, h2⟩

theorem does_rdD {o : Oper} {env : Env} {cf : FuncId → List V → M V} {m : Mem} {p q p1 q1 : Pc} {f : R V} {v : V} {u d : Mem} (hp : PcR ρ p) (h : (guardO o.guard (fun g => guardR ops g n env)).gives ρ m p true q) (hk : evKindD o.op P cf env = .rd f) (hp1 : PcR ρ p1) (hsub : MemSub u d) (hf : f.gives ρ d p1 v q1) :
    Does P ρ ops n o env u v u := by
  rcases evKindD_cases (op := o.op) (P := P) (cf := cf) (env := env) with h1 | ⟨k, h1, h2⟩
  · exact does_rd' hp h (h1 ▸ hk) hp1 hsub hf
  · rw [h2] at hk
    subst hk
    rcases convD_some h1 with ⟨_, _, _, _, _, e⟩ | ⟨s, dt, x, h3, _, h4, e⟩ | ⟨_, _, _, _, e⟩
    · cases e
    · injection e with e; subst e
      intro c w a hc hm he r K Q hK
      rw [if_pos (guardO_ok hp h hc he)]
      subst hc
      have hx : opd x env = opd x (lookEnv ops o env) := (opd_congr fun t ht => if_pos (mem_looks (by rw [h3]; simp [Op.operands, ht]))).symm
      rw [hx] at hf
      have hv := opd_ok he.full x
      generalize opd x (lookEnv ops o env) = y at hf hv
      cases y <;> try exact (R.gives_fail (s := "mark") hf).elim
      case slice i oo nn cp =>
        have hf : (onCells (d.tr.get i) (fun _ wr pl _ => selB (andB wr (notB pl)) (.ret ⟨.slice i oo nn cp, p1⟩) (.fail "mark")) (.fail "mark") : T (Rp V)).out c.ρ = some ⟨v, q1⟩ := hf
        cases hb : d.tr.get i with
        | none => rw [hb] at hf; simp [onCells, T.out] at hf
        | some b =>
          rw [hb] at hf
          cases b <;> try (simp [onCells, T.out] at hf; done)
          case cells l wr pl g =>
            obtain ⟨h5, h6⟩ := T.out_selB (show (selB (andB wr (notB pl)) (.ret ⟨.slice i oo nn cp, p1⟩) (.fail "mark") : T (Rp V)).out c.ρ = some ⟨v, q1⟩ from hf)
            simp only [T.out, Option.some.injEq, Rp.mk.injEq] at h6
            obtain ⟨rfl, rfl⟩ := h6
            obtain ⟨rfl, h7⟩ := andB_ok h5
            have hpl : pl = false := by cases pl <;> first | rfl | exact (Bool.false_ne_true h7).elim
            subst hpl
            have hu := hsub.tr i _ hb
            have hmk : (markM (.slice i oo nn cp)).gives c.ρ u p1 (.slice i oo nn cp) ⟨u.tr.set i (.cells l true false g), u.nb, u.tok, u.nt⟩ p1 := by
              show (onCells (u.tr.get i) (fun l wr _ g => selB wr ((putBlk i (.cells l true false g)).bnd fun _ => M.pure (V.slice i oo nn cp)) (M.fail "mark") u p1) (.fail "mark")).out c.ρ = _
              rw [hu]; rfl
            obtain ⟨_, c', w', z, st, hr, hz⟩ := markM_ok (P := P) hm hv h4 hmk
            refine wpIn_of (fun cl e => by rw [e] at h3; cases h3) ?_
            rw [show (execOp a.eval o).run P w = .ok (.value z) w' by unfold execOp; rw [h3]; simp [hr]]
            exact hK c' w' z (st.unset hu) hz
    · cases e

theorem NewR.off {c : Cx} {w : World} {ob : Obj} {bs : Blk × Shp} {z : Value} (h : NewR c w ob bs z) : NewR c w ob (plOff bs.1, bs.2) z := by
  refine ⟨by rw [plOff_wr]; exact h.1, fun n0 c' b h1 h2 h3 => ?_⟩
  obtain ⟨g1, g2⟩ := h.2 n0 c' b h1 h2 h3
  refine ⟨?_, g2⟩
  cases hb : bs.1 with
  | cells l wr pl g =>
    rw [hb] at g1
    obtain ⟨cs, t, fr, k1, k2, _, k4, k5⟩ := g1
    exact ⟨cs, t, fr, k1, k2, fun e => absurd e (by simp), k4, k5⟩
  | _ => rw [hb] at g1; exact g1

theorem does_mkD {o : Oper} {env : Env} {cf : FuncId → List V → M V} {m m1 : Mem} {p q p1 q1 : Pc} {f : R (Blk × Shp)} {bs : Blk × Shp} {k0 b : Nat} (hp : PcR ρ p) (h : (guardO o.guard (fun g => guardR ops g n env)).gives ρ m p true q) (hk : evKindD o.op P cf env = .al f) (hp1 : PcR ρ p1) (hf : f.gives ρ m1 p1 bs q1)
    {u : Mem} (hb : u.tr.get b = some .rsv) (hk0 : k0 ≤ b) : DoesN k0 P ρ ops n o env u (bs.2.val b) (setB u b bs.1) := by
  rcases evKindD_cases (op := o.op) (P := P) (cf := cf) (env := env) with h1 | ⟨g, h1, h2⟩
  · exact does_mk hp h (h1 ▸ hk) hp1 hf hb hk0
  · rw [h2] at hk
    subst hk
    rcases convD_some h1 with ⟨s, d, x, h3, h4, e⟩ | ⟨_, _, _, _, _, _, e⟩ | ⟨t, j, ps, h3, e⟩
    · injection e with e; subst e
      intro c w a hc hm he r K Q hK
      rw [if_pos (guardO_ok hp h hc he)]
      subst hc
      have hx : opd x env = opd x (lookEnv ops o env) := (opd_congr fun t ht => if_pos (mem_looks (by rw [h3]; simp [Op.operands, ht]))).symm
      rw [hx] at hf
      obtain ⟨ob, z, h7, h8⟩ := bytesR_ok (w := w) (opd_ok he.full x) h4 hf
      obtain ⟨c', st, hz⟩ := StepN.make (Step.drew hm).rel hb hk0 h8
      have st : StepN k0 c u w c' (setB u b bs.1) (w.drew.alloc ob) := ⟨st.rel, st.le, st.os, st.tape, st.output, st.size, st.frame, st.wr, st.ad⟩
      refine wpIn_of (fun cl e => by rw [e] at h3; cases h3) ?_
      rw [show (execOp a.eval o).run P w = .ok (.value z) (w.drew.alloc ob) by unfold execOp; rw [h3]; simp [h7]]
      exact hK _ _ _ st hz
    · cases e
    · injection e with e; subst e
      intro c w a hc hm he r K Q hK
      rw [if_pos (guardO_ok hp h hc he)]
      subst hc
      obtain ⟨bs0, q0, h4, h5⟩ := R.gives_bnd hf
      obtain ⟨rfl, rfl⟩ := R.gives_pure h5
      have hk' : evKind o.op P cf (lookEnv ops o env) = .al (buildSliceR P t j (partsV ps.toList env)) := by rw [look_kind, h3]; rfl
      obtain ⟨_, ob, z, h7, h8⟩ := al_ok (w := w) hp1 he.full hk' h4
      obtain ⟨c', s, hz⟩ := StepN.make hm hb hk0 h8.off
      refine wpIn_of (fun cl e => by rw [e] at h3; cases h3) ?_
      rw [h7]
      exact hK _ _ _ s hz

end step

/-- the run in the order of the text gives a certificate -/
theorem evDr_ok {cf : FuncId → List V → M V} (hcf : CallsOK P ρ cf) : ∀ {l : List Oper} {i k b : Nat} {D : Data} {cur : Mem} {sn : List Sn} {rs : List Nat} {gs : List Gr} {ws : List Wt} {look : Nat → Nat} {p : Pc} {r : Rs Env},
    ops.toList.drop i = l → i + l.length = ops.size → b = m0.nb + i → (∀ j b, (look j).testBit b = true → Anc ops j b) → PcR ρ p → Cert P ρ ops n env0 m0 i k D cur → Mind P ρ ops n env0 m0 i k D sn rs gs ws →
    (evDr l ops P cf n i b look (envT ops D.val env0 i) sn rs gs ws cur p).out ρ = some r →
    ∃ k' D', Cert P ρ ops n env0 m0 ops.size k' D' r.m ∧ r.v = envT ops D'.val env0 ops.size ∧ PcR ρ r.p
  | [], i, k, b, D, cur, sn, rs, gs, ws, look, p, r, hd, hi, hb, hl, hp, C, N, h => by
    have : i = ops.size := by simpa using hi
    subst this
    obtain ⟨k', D', cur', sn', rs', gs', h2, C2, N2, h3⟩ := shut_ok (Nat.le_refl _) (fun _ => true) gs [] (fun _ _ _ m => (.ret ⟨envT ops D.val env0 ops.size, m, p⟩ : T (Rs Env))) sn rs k D cur C N
    have h : (shutW (fun _ => true) gs (fun _ _ _ m => (.ret ⟨envT ops D.val env0 ops.size, m, p⟩ : T (Rs Env))) sn rs cur).out ρ = some r := h
    rw [h2] at h
    obtain rfl := Option.some.inj (show some (⟨envT ops D.val env0 ops.size, cur', p⟩ : Rs Env) = some r from h)
    exact ⟨k', D', C2, by rw [h3], hp⟩
  | o :: l, i, k, b, D, cur, sn, rs, gs, ws, look, p, r, hd, hi, hb, hl, hp, C, N, h => by
    have ho : ops[i]? = some o := by
      have : (ops.toList.drop i)[0]? = some o := by rw [hd]; rfl
      simpa using this
    have hd' : ops.toList.drop (i + 1) = l := by rw [← List.drop_drop, hd]; rfl
    have hi' : i + 1 + l.length = ops.size := by simp at hi; omega
    have hin : i ≤ ops.size := by omega
    have hA : ∀ b, (ancOf o.after.toList look).testBit b = true → Anc ops i b := ancOf_ok hl ho _ (fun e he => by simpa using he)
    have hl' := putN_ok hl hA
    have h : ((forceN (ancOf o.after.toList look) fun A => fun m p =>
        (guardO o.guard (fun g => guardR ops g n (envT ops D.val env0 i)) m p).bndpq p fun w p => (Bool.rec
          (selB (slotOk o.dst n) (evDr l ops P cf n (i + 1) (b + 1) (putN look i A) (putE o.dst (envT ops D.val env0 i) undefV) sn rs gs ws m p) (.fail "a slot beyond the frame"))
          (drAny P cf o.op o.dst n i A b (envT ops D.val env0 i) sn rs gs ws (evDr l ops P cf n (i + 1) (b + 1) (putN look i A)) m p) w : T (Rs Env)) : M Env) cur p).out ρ = some r := h
    have h := (congrArg (fun x : M Env => (x cur p).out ρ = some r) (forceN_eq (α := M Env) (ancOf o.after.toList look) _)).mp h
    obtain ⟨⟨w, pw⟩, p1, hg, hp1, h⟩ := T.out_bndpq hp h
    have hg : (guardO o.guard (fun g => guardR ops g n (envT ops D.val env0 i))).gives ρ cur p w pw := hg
    generalize ancOf o.after.toList look = A at h hA hl'
    have goes : Goes P ρ ops n env0 m0 (i + 1) (evDr l ops P cf n (i + 1) (b + 1) (putN look i A)) r (∃ k' D', Cert P ρ ops n env0 m0 ops.size k' D' r.m ∧ r.v = envT ops D'.val env0 ops.size ∧ PcR ρ r.p) :=
      fun k D cur sn rs gs ws p hp C N h => evDr_ok hcf hd' hi' (by omega) hl' hp C N h
    cases w with
    | false =>
      obtain ⟨h4, h⟩ := T.out_selB h
      have hno := fun u => does_no (P := P) hp hg u
      have C' := C.addRd (v := undefV) ho h4 (fun _ _ _ u _ _ => hno u)
      have N' := N.addRd (v := undefV) C ho (ws' := ws) (fun w hw => hw) (.inl hno)
      refine goes _ _ _ _ _ _ _ p1 hp1 C' N' ?_
      dsimp only
      rw [env_next ho]
      exact h
    | true =>
      have h : ((Option.rec (Kd.rec (fun f => drRd o.dst n i A (envT ops D.val env0 i) sn rs gs ws f (evDr l ops P cf n (i + 1) (b + 1) (putN look i A)))
            (fun f => drAl o.dst n i b (envT ops D.val env0 i) sn rs gs ws (mkOf o.op P) f (evDr l ops P cf n (i + 1) (b + 1) (putN look i A)))
            (fun f => drEf o.dst n i A (envT ops D.val env0 i) sn rs gs ws f (evDr l ops P cf n (i + 1) (b + 1) (putN look i A))) (evKindD o.op P cf (envT ops D.val env0 i)))
          (fun x => drIn P o.dst n i A (envT ops D.val env0 i) sn rs gs ws x.1 x.2 (evDr l ops P cf n (i + 1) (b + 1) (putN look i A)))
          (onO (insOf o.op P (envT ops D.val env0 i)) (fun x => onO (findG (isIns x) gs) fun g => some (x, g))) : M Env) cur p1).out ρ = some r := h
      have kinds : ((Kd.rec (fun f => drRd o.dst n i A (envT ops D.val env0 i) sn rs gs ws f (evDr l ops P cf n (i + 1) (b + 1) (putN look i A)))
            (fun f => drAl o.dst n i b (envT ops D.val env0 i) sn rs gs ws (mkOf o.op P) f (evDr l ops P cf n (i + 1) (b + 1) (putN look i A)))
            (fun f => drEf o.dst n i A (envT ops D.val env0 i) sn rs gs ws f (evDr l ops P cf n (i + 1) (b + 1) (putN look i A))) (evKindD o.op P cf (envT ops D.val env0 i)) : M Env) cur p1).out ρ = some r → ∃ k' D', Cert P ρ ops n env0 m0 ops.size k' D' r.m ∧ r.v = envT ops D'.val env0 ops.size ∧ PcR ρ r.p := by
        intro h
        cases hk : evKindD o.op P cf (envT ops D.val env0 i) with
        | rd f =>
          rw [hk] at h
          exact drRd_ok hin C N hp1 ho hA (fun p1 q1 u d v hp1 hs hf => does_rdD hp hg hk hp1 hs hf) goes h
        | al f =>
          rw [hk] at h
          subst hb
          refine drAl_ok C N hp1 ho ?_ (fun p1 q1 m bs hp1 hf => ?_) goes h
          · exact alD_isAl hk
          · obtain ⟨h1, h2⟩ := alD_new hk hf
            exact ⟨h1, h2, fun u b hb hle => does_mkD hp hg hk hp1 hf hb hle⟩
        | ef f =>
          rw [hk] at h
          exact drEf_ok hin C N hp1 ho hA (fun p1 q1 v u u' hp1 hf => does_ef hcf hp hg (evKindD_ef hk) hp1 hf) goes h
      cases hins : insOf o.op P (envT ops D.val env0 i) with
      | none => rw [hins] at h; exact kinds h
      | some x =>
        rw [hins] at h
        cases hgf : findG (isIns x) gs with
        | none =>
          have e : (onO (some x) fun x => onO (findG (isIns x) gs) fun g => some (x, g)) = none := by
            show onO (findG (isIns x) gs) (fun g => some (x, g)) = none
            rw [hgf]; rfl
          rw [e] at h
          exact kinds h
        | some g =>
          have e : (onO (some x) fun x => onO (findG (isIns x) gs) fun g => some (x, g)) = some (x, g) := by
            show onO (findG (isIns x) gs) (fun g => some (x, g)) = some (x, g)
            rw [hgf]; rfl
          rw [e] at h
          obtain ⟨t, mp, kk, y, et, _, hmt, _⟩ := insOf_some hins
          exact drIn_ok C N hp1 ho hA hgf (mapOf_some hmt).2 (fun u B es e1 e2 e3 => does_ins hp hg hins e1 e2 e3) goes h
/-- the slots behind the operations of 'S' -/
noncomputable def envS (ops : Array Oper) (val : Nat → V) (env0 : Env) (S : Nat → Bool) : Nat → Env
  | 0 => env0
  | j + 1 => selB (S j) (putE (dstAt ops j) (envS ops val env0 S j) (val j)) (envS ops val env0 S j)

theorem putE_ne {d : Option Nat} {env : Env} {v : V} {t : Nat} (h : d ≠ some t) : putE d env v t = env t := by
  cases d with
  | none => rfl
  | some d =>
    show (Bool.rec (env t) v (Nat.beq t d) : V) = env t
    cases hb : Nat.beq t d with
    | false => rfl
    | true => rw [beq_iff] at hb; subst hb; exact absurd rfl h

theorem putE_eq {env : Env} {v : V} {t : Nat} : putE (some t) env v t = v := by
  show (Bool.rec (env t) v (Nat.beq t t) : V) = v
  rw [(beq_iff t t).2 rfl]

variable {val : Nat → V}

theorem envS_congr {S S' : Nat → Bool} {t : Nat} : ∀ {N : Nat}, (∀ j, j < N → dstAt ops j = some t → S' j = S j) → envS ops val env0 S' N t = envS ops val env0 S N t
  | 0, _ => rfl
  | N + 1, h => by
    have ih := envS_congr (N := N) fun j hj => h j (by omega)
    rw [envS, envS]
    by_cases hd : dstAt ops N = some t
    · rw [h N (by omega) hd]
      cases S N with
      | false => exact ih
      | true =>
        show putE (dstAt ops N) _ (val N) t = putE (dstAt ops N) _ (val N) t
        rw [hd, putE_eq, putE_eq]
    · have e : ∀ (b : Bool) (env : Env), selB b (putE (dstAt ops N) env (val N)) env t = env t := by
        intro b env
        cases b with
        | false => rfl
        | true => exact putE_ne hd
      rw [e, e]; exact ih

theorem envS_all : ∀ {N : Nat}, envS ops val env0 (fun _ => true) N = envT ops val env0 N
  | 0 => rfl
  | N + 1 => by rw [envS, envT, envS_all]; rfl

theorem envS_cut {i t : Nat} : ∀ {N : Nat}, i ≤ N → envS ops val env0 (fun j => decide (j < i)) N t = envT ops val env0 i t
  | 0, h => by
    have : i = 0 := by omega
    subst this; rfl
  | N + 1, h => by
    rw [envS]
    by_cases hN : N < i
    · have : i = N + 1 := by omega
      subst this
      rw [decide_eq_true hN, envT]
      have e : envS ops val env0 (fun j => decide (j < N + 1)) N = envT ops val env0 N := by
        funext t
        rw [← envS_all]
        exact envS_congr fun j hj _ => by simp; omega
      rw [e]; rfl
    · rw [decide_eq_false hN]
      exact envS_cut (by omega)

/-- one more -/
theorem envS_new {S S' : Nat → Bool} {i t : Nat} (hS' : S' i = true) (h : ∀ j, j ≠ i → S' j = S j) (hd : dstAt ops i = some t) : ∀ {N : Nat}, i < N → (∀ j, i < j → j < N → dstAt ops j = some t → S j = false) → envS ops val env0 S' N t = val i
  | N + 1, hi, hn => by
    rw [envS]
    by_cases hN : N = i
    · subst hN
      rw [hS', hd]
      exact putE_eq
    · have ih := envS_new hS' h hd (N := N) (by omega) fun j h1 h2 => hn j h1 (by omega)
      by_cases hdN : dstAt ops N = some t
      · rw [h N hN, hn N (by omega) (by omega) hdN]
        exact ih
      · cases S' N with
        | false => exact ih
        | true => show putE (dstAt ops N) _ (val N) t = val i; rw [putE_ne hdN]; exact ih

theorem Anc.lt (F : RegF ops) {i j : Nat} (h : Anc ops i j) : j < i := by
  induction h with
  | edge ho he hb => exact F.edges _ _ _ ho he hb
  | step ho he hb _ ih => exact Nat.lt_trans ih (F.edges _ _ _ ho he hb)

theorem getD_new {listed : Array Bool} {i : Nat} (hi : i < listed.size) : (listed.setIfInBounds i true).getD i false = true := by
  simp [hi]


/-! ### the memories of a run in any order -/

open Classical in
/-- what lies over the memory of level x, where the operations of S are done -/
noncomputable def Data.fr (D : Data) (ops : Array Oper) (b0 x : Nat) (S : Nat → Bool) (j : Nat) : Option Blk :=
  if b0 ≤ j ∧ alAt ops (j - b0) = true ∧ (∀ a, D.cls (j - b0) = some a → x ≤ a) then some (D.cnt (j - b0) S) else none

noncomputable def Data.mem (D : Data) (ops : Array Oper) (b0 x : Nat) (S : Nat → Bool) : Mem := layM (D.base x) (D.fr ops b0 x S) ((List.range ops.size).map (b0 + ·))

section mid
variable {k : Nat} {D : Data} {cur : Mem} {b0 : Nat}

theorem fr_some {x : Nat} {S : Nat → Bool} {j : Nat} {b : Blk} (h : D.fr ops b0 x S j = some b) : ∃ s, j = b0 + s ∧ alAt ops s = true ∧ (∀ a, D.cls s = some a → x ≤ a) ∧ b = D.cnt s S := by
  unfold Data.fr at h
  split at h
  · rename_i h1
    exact ⟨j - b0, by omega, h1.2.1, h1.2.2, (Option.some.inj h).symm⟩
  · exact nomatch h

theorem fr_at {x s : Nat} {S : Nat → Bool} (h1 : alAt ops s = true) (h2 : ∀ a, D.cls s = some a → x ≤ a) : D.fr ops b0 x S (b0 + s) = some (D.cnt s S) := by
  unfold Data.fr
  rw [Nat.add_sub_cancel_left, if_pos ⟨Nat.le_add_right _ _, h1, h2⟩]

theorem fr_no {x s a : Nat} {S : Nat → Bool} (h1 : D.cls s = some a) (h2 : a < x) : D.fr ops b0 x S (b0 + s) = none := by
  unfold Data.fr
  rw [Nat.add_sub_cancel_left, if_neg]
  intro h
  have := h.2.2 a h1
  omega

theorem alAt_lt {s : Nat} (h : alAt ops s = true) : s < ops.size := by
  unfold alAt at h
  cases ho : ops[s]? with
  | none => rw [ho] at h; exact nomatch h
  | some o => exact (Array.getElem?_eq_some_iff.1 ho).1

theorem mem_ext (x : Nat) (S : Nat → Bool) : Ext (D.base x) (D.fr ops b0 x S) (D.mem ops b0 x S) :=
  layM_ext fun j b h => by
    obtain ⟨s, rfl, h1, _, _⟩ := fr_some h
    exact List.mem_map.2 ⟨s, List.mem_range.2 (alAt_lt h1), rfl⟩

theorem fr_gone (C : Cert P ρ ops n env0 m0 ops.size k D cur) {x : Nat} (hx : x ≤ k) {S : Nat → Bool} : ∀ j b, D.fr ops m0.nb x S j = some b → (D.base x).tr.get j = none := by
  intro j b h
  obtain ⟨s, rfl, h1, h2, _⟩ := fr_some h
  exact C.gone x s hx h1 h2

theorem fr_wr (C : Cert P ρ ops n env0 m0 ops.size k D cur) {x : Nat} {S : Nat → Bool} : ∀ j b, D.fr ops m0.nb x S j = some b → b = .rsv ∨ b.wrB = true := by
  intro j b h
  obtain ⟨s, rfl, h1, h2, rfl⟩ := fr_some h
  unfold Data.cnt
  cases hc : D.cl s with
  | mk =>
    dsimp only
    split
    · have hs : s < ops.size := C.side.lt (by rw [hc]; exact fun h => nomatch h)
      have hw := (C.side.made s _ (Array.getElem?_eq_getElem hs) hc).2.1
      cases insL (D.ent s) S with
      | nil => exact .inr hw
      | cons e l => exact .inr rfl
    · exact .inl rfl
  | _ => exact .inl rfl

theorem cnt_congr (C : Cert P ρ ops n env0 m0 ops.size k D cur) {S S' : Nat → Bool} {t : Nat} (h1 : D.cl t = .mk → S' t = S t) (h2 : ∀ j, D.cl j = .ins t → S' j = S j) : D.cnt t S' = D.cnt t S := by
  unfold Data.cnt
  cases hc : D.cl t with
  | mk =>
    dsimp only
    rw [h1 hc, insL_congr (S := S') (S' := S) fun x hx => h2 x.1 (C.side.ent t x.1 x.2 hc hx).1]
  | _ => rfl

theorem fr_congr (C : Cert P ρ ops n env0 m0 ops.size k D cur) {S S' : Nat → Bool} {x : Nat} (h1 : ∀ t, D.cl t = .mk → S' t = S t) (h2 : ∀ j t, D.cl j = .ins t → S' j = S j) : D.fr ops m0.nb x S' = D.fr ops m0.nb x S := by
  funext j
  unfold Data.fr
  rw [cnt_congr C (h1 _) fun j h => h2 j _ h]

theorem fr_congr_at {S S' : Nat → Bool} {x j : Nat} (h : ∀ t, j = b0 + t → D.cnt t S' = D.cnt t S) : D.fr ops b0 x S' j = D.fr ops b0 x S j := by
  unfold Data.fr
  by_cases hj : b0 ≤ j
  · rw [h (j - b0) (by omega)]
  · rw [if_neg fun h => hj h.1, if_neg fun h => hj h.1]

theorem mem_congr (C : Cert P ρ ops n env0 m0 ops.size k D cur) {S S' : Nat → Bool} {x : Nat} (h1 : ∀ t, D.cl t = .mk → S' t = S t) (h2 : ∀ j t, D.cl j = .ins t → S' j = S j) : D.mem ops m0.nb x S' = D.mem ops m0.nb x S := by
  unfold Data.mem
  rw [fr_congr C h1 h2]

/-- a level at which nothing shuts -/
theorem fr_step {x : Nat} {S : Nat → Bool} (h : ∀ s, D.cls s ≠ some x) : D.fr ops b0 (x + 1) S = D.fr ops b0 x S := by
  funext j
  unfold Data.fr
  have e : (b0 ≤ j ∧ alAt ops (j - b0) = true ∧ ∀ a, D.cls (j - b0) = some a → x + 1 ≤ a) ↔ (b0 ≤ j ∧ alAt ops (j - b0) = true ∧ ∀ a, D.cls (j - b0) = some a → x ≤ a) :=
    ⟨fun ⟨h1, h2, h3⟩ => ⟨h1, h2, fun a ha => by have := h3 a ha; omega⟩, fun ⟨h1, h2, h3⟩ => ⟨h1, h2, fun a ha => by
      have h4 := h3 a ha
      have : a ≠ x := fun e => h _ (e ▸ ha)
      omega⟩⟩
  by_cases hc : (b0 ≤ j ∧ alAt ops (j - b0) = true ∧ ∀ a, D.cls (j - b0) = some a → x ≤ a)
  · rw [if_pos hc, if_pos (e.2 hc)]
  · rw [if_neg hc, if_neg (fun h => hc (e.1 h))]

/-- a level at which a block shuts, all of its operations being done -/
theorem mem_shut (C : Cert P ρ ops n env0 m0 ops.size k D cur) {x s : Nat} (hx : x < k) (hkd : D.kd x = some s) {S : Nat → Bool} (hS : ∀ e, D.lev e = some x → S e = true) : MemE (D.mem ops m0.nb x S) (D.mem ops m0.nb (x + 1) S) := by
  obtain ⟨h1, h2⟩ := C.kds x s hx hkd
  have hmk : D.cl s = .mk := Classical.byContradiction fun h => by rw [C.cfresh s h] at h1; exact nomatch h1
  have hal : alAt ops s = true := C.alAt (Nat.le_refl _) hmk
  have huniq : ∀ t, D.cls t = some x → t = s := fun t h => by
    have := (C.clsk t x h).2
    rw [hkd] at this; exact (Option.some.inj this).symm
  have e1 := mem_ext (D := D) (ops := ops) (b0 := m0.nb) x S
  have e2 := mem_ext (D := D) (ops := ops) (b0 := m0.nb) (x + 1) S
  refine ⟨e1.nb.trans (Eq.trans ?_ e2.nb.symm), e1.nt.trans (Eq.trans ?_ e2.nt.symm), e1.tok.trans (Eq.trans ?_ e2.tok.symm), fun j => .inl ?_⟩
  · rw [h2]; rfl
  · rw [h2]; rfl
  · rw [h2]; rfl
  · by_cases hj : j = m0.nb + s
    · subst hj
      have hcnt : D.cnt s (fun _ => true) = D.cnt s S := cnt_congr C (fun _ => by rw [hS s (by unfold Data.lev; rw [hmk]; exact h1)]) fun j h => by rw [hS j (by unfold Data.lev; rw [h]; exact h1)]
      rw [e1.put (fr_at hal fun a ha => by rw [h1] at ha; have := Option.some.inj ha; omega), e2.not (fr_no h1 (Nat.lt_succ_self x)), h2, setB_get, if_pos rfl, hcnt]
    · have hb : (D.base (x + 1)).tr.get j = (D.base x).tr.get j := by rw [h2, setB_get, if_neg hj]
      rw [e1.tr, e2.tr, hb]
      congr 1
      unfold Data.fr
      by_cases hjb : m0.nb ≤ j
      · have e : (m0.nb ≤ j ∧ alAt ops (j - m0.nb) = true ∧ ∀ a, D.cls (j - m0.nb) = some a → x + 1 ≤ a) ↔ (m0.nb ≤ j ∧ alAt ops (j - m0.nb) = true ∧ ∀ a, D.cls (j - m0.nb) = some a → x ≤ a) :=
          ⟨fun ⟨h1, h2, h3⟩ => ⟨h1, h2, fun a ha => by have := h3 a ha; omega⟩, fun ⟨h1, h2, h3⟩ => ⟨h1, h2, fun a ha => by
            have h4 := h3 a ha
            have : a ≠ x := fun e => by
              have := huniq _ (e ▸ ha)
              omega
            omega⟩⟩
        by_cases hc : (m0.nb ≤ j ∧ alAt ops (j - m0.nb) = true ∧ ∀ a, D.cls (j - m0.nb) = some a → x ≤ a)
        · rw [if_pos hc, if_pos (e.2 hc)]
        · rw [if_neg hc, if_neg (fun h => hc (e.1 h))]
      · rw [if_neg (fun h => hjb h.1), if_neg (fun h => hjb h.1)]

/-- where a run in some order stands: at a level x -/
structure At0 (P : Program) (ρ : Nat → Int) (ops : Array Oper) (k : Nat) (D : Data) (c0 : Cx) (m0 : Mem) (w0 : World) (S : Nat → Bool) (w : World) (c : Cx) (x : Nat) : Prop where
  le : x ≤ k
  near : ∀ j b, D.lev j = some b → b < x → S j = true
  far : ∀ j b, D.cl j = .ef b → x ≤ b → S j = false
  step : StepN m0.nb c0 m0 w0 c (D.mem ops m0.nb x S) w

theorem At0.norm (C : Cert P ρ ops n env0 m0 ops.size k D cur) {c0 c : Cx} {w0 w : World} {S : Nat → Bool} : ∀ (d x : Nat), x + d = k → At0 P ρ ops k D c0 m0 w0 S w c x →
    ∃ x, At0 P ρ ops k D c0 m0 w0 S w c x ∧ (x = k ∨ ∃ e, D.lev e = some x ∧ S e = false)
  | 0, x, hd, h => ⟨x, h, .inl (by omega)⟩
  | d + 1, x, hd, h => by
    by_cases hex : ∃ e, D.lev e = some x ∧ S e = false
    · exact ⟨x, h, .inr hex⟩
    · have hS : ∀ e, D.lev e = some x → S e = true := fun e he => by
        cases hse : S e with
        | true => rfl
        | false => exact absurd ⟨e, he, hse⟩ hex
      cases hkd : D.kd x with
      | none =>
        obtain ⟨j, hj⟩ := C.kdn x (by omega) hkd
        exact absurd ⟨j, by unfold Data.lev; rw [hj], h.far j x hj (Nat.le_refl _)⟩ hex
      | some s =>
        refine At0.norm C d (x + 1) (by omega) ⟨by omega, fun j b hb hlt => ?_, fun j b hb hle => h.far j b hb (by omega), h.step.toE (mem_shut C (by omega) hkd hS)⟩
        by_cases e : b = x
        · subst e; exact hS j hb
        · exact h.near j b hb (by omega)

/-- where a run in some order stands -/
structure Mid (P : Program) (ρ : Nat → Int) (ops : Array Oper) (n : Nat) (env0 : Env) (k : Nat) (D : Data) (c0 : Cx) (m0 : Mem) (w0 : World) (a0 : Act) (listed : Array Bool) (a : Act) (w : World) : Prop where
  size : listed.size = ops.size
  closed : ∀ j j', listed.getD j false = true → Anc ops j j' → listed.getD j' false = true
  pos : ∃ x c, At0 P ρ ops k D c0 m0 w0 (fun j => listed.getD j false) w c x ∧ (x = k ∨ ∃ e, D.lev e = some x ∧ listed.getD e false = false) ∧
    a.tmps.size = n ∧ ∀ t, VR c (envS ops D.val env0 (fun j => listed.getD j false) ops.size t) (a.tmps.getD t undef)
  defers : a.defers = a0.defers

theorem mid_step (F : RegF ops) (C : Cert P ρ ops n env0 m0 ops.size k D cur) {c0 : Cx} {w0 : World} {a0 : Act} (hρ : c0.ρ = ρ) (hn0 : c0.nb = m0.nb) (hg0 : GlobR c0) {listed : Array Bool} {a : Act} {w : World}
    (M : Mid P ρ ops n env0 k D c0 m0 w0 a0 listed a w) {i : Nat} (hi : i ∈ Region.ready .any ops listed) {Q : Exit → Act → World → Prop} {K : Act → World → Prop}
    (hK : ∀ a' w', Mid P ρ ops n env0 k D c0 m0 w0 a0 (listed.setIfInBounds i true) a' w' → K a' w') (r : Option Nat) : wpOpIn (Fr r) 0 P ops Q i K a w := by
  obtain ⟨hnl, o, ho, hall⟩ := mem_ready.1 hi
  have hin : i < ops.size := (Array.getElem?_eq_some_iff.1 ho).1
  have hil : i < listed.size := by rw [M.size]; exact hin
  have hnl' : listed.getD i false = false := by
    have : ∀ d, listed.getD i d = listed[i] := fun d => by simp [Array.getD, hil]
    rw [this] at hnl ⊢; exact hnl
  have hdst : dstAt ops i = o.dst := by unfold dstAt; rw [ho]; rfl
  have hanc : ∀ j, Anc ops i j → listed.getD j false = true := by
    intro j hj
    cases hj with
    | edge ho' he hb => rw [ho] at ho'; simp at ho'; subst ho'; exact hall _ he hb
    | step ho' he hb h => rw [ho] at ho'; simp at ho'; subst ho'; exact M.closed _ _ (hall _ he hb) h
  have hnot : ∀ j, Anc ops j i → listed.getD j false = false := by
    intro j hj
    cases hlj : listed.getD j false with
    | false => rfl
    | true => have := M.closed j i hlj hj; rw [hnl'] at this; simp at this
  obtain ⟨x, c, h0, hpos, hsz, hsl⟩ := M.pos
  have s := h0.step
  have hrho := s.le.ρ.trans hρ
  have hb0 : m0.nb ≤ c.nb := by have := s.le.nb; omega
  -- which operations touch a slot that this one looks at, or writes
  have apart : ∀ j t, j < ops.size → dstAt ops j = some t → (t ∈ looks ops o ∨ o.dst = some t) → j ≠ i → (listed.getD j false = decide (j < i)) := by
    intro j t hj hdj ht hne
    obtain ⟨o', ho'⟩ : ∃ o', ops[j]? = some o' := ⟨ops[j], Array.getElem?_eq_getElem hj⟩
    have hd' : o'.dst = some t := by unfold dstAt at hdj; rw [ho'] at hdj; exact hdj
    by_cases hlt : j < i
    · rw [decide_eq_true hlt]
      rcases F.apart i j o o' ho ho' hlt with h | h
      · exact hanc j h
      · exfalso
        unfold slotsApart at h
        rw [hd'] at h
        rcases ht with ht | ht
        · simp [ht] at h
        · rw [ht] at h; simp at h
    · rw [decide_eq_false hlt]
      rcases F.apart j i o' o ho' ho (by omega) with h | h
      · exact hnot j h
      · exfalso
        unfold slotsApart at h
        rw [hd'] at h
        rcases ht with ht | ht
        · simp [ht] at h
        · rw [ht] at h; simp at h
  have hlook : EnvL c n ops o (envT ops D.val env0 i) a := by
    refine ⟨hsz, fun t ht => ?_, hg0.mono s.le⟩
    rw [← envS_cut (N := ops.size) (by omega)]
    rw [envS_congr (S := fun j => listed.getD j false) (fun j hj hdj => ?_)]
    · exact hsl t
    · by_cases hne : j = i
      · subst hne; simp [hnl']
      · exact (apart j t hj hdj (.inl ht) hne).symm
  have hnew : ∀ (c' : Cx) (z : Value), c.leN m0.nb c' → VR c' (D.val i) z → (∀ d, o.dst = some d → d < n) → ∀ t, VR c' (envS ops D.val env0 (fun j => (listed.setIfInBounds i true).getD j false) ops.size t) ((a.put o.dst z).tmps.getD t undef) := by
    intro c' z hle hz hdn t
    have hS : ∀ j, j ≠ i → (listed.setIfInBounds i true).getD j false = listed.getD j false := fun j hj => getD_set_ne false (Ne.symm hj)
    by_cases hd : o.dst = some t
    · have e1 : envS ops D.val env0 (fun j => (listed.setIfInBounds i true).getD j false) ops.size t = D.val i :=
        envS_new (S := fun j => listed.getD j false) (getD_new hil) hS (by rw [hdst]; exact hd) hin fun j h1 h2 h3 => by
          rw [apart j t h2 h3 (.inr hd) (by omega)]; simp; omega
      have e2 : (a.put o.dst z).tmps.getD t undef = z := by
        rw [hd, Act.put_tmps]
        have := hdn t hd
        simp [Array.getD, hsz, this]
      rw [e1, e2]; exact hz
    · have e1 : envS ops D.val env0 (fun j => (listed.setIfInBounds i true).getD j false) ops.size t = envS ops D.val env0 (fun j => listed.getD j false) ops.size t :=
        envS_congr fun j hj hdj => hS j fun e => by subst e; rw [hdst] at hdj; exact hd hdj
      have e2 : (a.put o.dst z).tmps.getD t undef = a.tmps.getD t undef := by
        cases hdo : o.dst with
        | none => rfl
        | some d =>
          rw [Act.put_tmps]
          have : d ≠ t := fun e => hd (by rw [hdo, e])
          simp only [Array.getD_eq_getD_getElem?, Array.getElem?_setIfInBounds, if_neg this]
      rw [e1, e2]; exact (hsl t).mono hle
  have hclosed : ∀ j j', (listed.setIfInBounds i true).getD j false = true → Anc ops j j' → (listed.setIfInBounds i true).getD j' false = true := by
    intro j j' hj hjj
    by_cases hji : j = i
    · subst hji; exact getD_set_true (hanc j' hjj)
    · rw [getD_set_ne false (Ne.symm hji)] at hj
      exact getD_set_true (M.closed j j' hj hjj)
  have hdn : ∀ d, o.dst = some d → d < n := fun d hd => C.slot i d hin (by rw [hdst]; exact hd)
  have hsize : (listed.setIfInBounds i true).size = ops.size := by simpa using M.size
  unfold wpOpIn
  rw [ho]
  show if Region.wanted o (yielded ops a.tmps) then o.wpIn (Fr r) 0 P a w K Q else (∀ f, o.about P w a.eval = some f → (Fr r).fn f) ∧ K (a.put o.dst undef) w
  have hnext : ∀ j, (listed.setIfInBounds i true).getD j false = updN (fun j => listed.getD j false) i true j := fun j => by
    by_cases hji : j = i
    · subst hji; rw [updN_same]; exact getD_new hil
    · rw [updN_ne hji]; exact getD_set_ne false (Ne.symm hji)
  have fin : ∀ (c' : Cx) (w' : World) (z : Value) (x' : Nat), At0 P ρ ops k D c0 m0 w0 (fun j => (listed.setIfInBounds i true).getD j false) w' c' x' → c.leN m0.nb c' → VR c' (D.val i) z → K (a.put o.dst z) w' := by
    intro c' w' z x' hx' hle hz
    obtain ⟨x2, h2, hp2⟩ := At0.norm C (k - x') x' (by have := hx'.le; omega) hx'
    refine hK _ _ ⟨hsize, hclosed, ⟨x2, c', h2, hp2, ?_, hnew c' z hle hz hdn⟩, ?_⟩
    · cases hd : o.dst <;> simp [Act.put, hsz]
    · rw [put_defers]; exact M.defers
  have hother : ∀ {j}, j ≠ i → (listed.setIfInBounds i true).getD j false = listed.getD j false := fun {j} hj => by rw [hnext j, updN_ne hj]
  have hmore : ∀ {j}, listed.getD j false = true → (listed.setIfInBounds i true).getD j false = true := fun {j} h => getD_set_true h
  have near : ∀ j b, D.lev j = some b → b < x → (listed.setIfInBounds i true).getD j false = true := fun j b hb hlt => hmore (h0.near j b hb hlt)
  have far : (∀ b, D.cl i ≠ .ef b) → ∀ j b, D.cl j = .ef b → x ≤ b → (listed.setIfInBounds i true).getD j false = false := fun hne j b hb hle => by
    rw [hother (fun e => hne b (e ▸ hb))]; exact h0.far j b hb hle
  have hgone := fr_gone C h0.le (S := fun j => listed.getD j false)
  have hext := mem_ext (D := D) (ops := ops) (b0 := m0.nb) x (fun j => listed.getD j false)
  have hext' := mem_ext (D := D) (ops := ops) (b0 := m0.nb) x (fun j => (listed.setIfInBounds i true).getD j false)
  cases hcl : D.cl i with
  | rd =>
    have hsame : ∀ {j}, D.cl j ≠ .rd → (listed.setIfInBounds i true).getD j false = listed.getD j false := fun {j} h => hother fun e => h (e ▸ hcl)
    have hmem : D.mem ops m0.nb x (fun j => (listed.setIfInBounds i true).getD j false) = D.mem ops m0.nb x (fun j => listed.getD j false) :=
      mem_congr C (fun t h => hsame (by rw [h]; exact fun h => nomatch h)) fun j t h => hsame (by rw [h]; exact fun h => nomatch h)
    have hD := C.reads i o x hin ho hcl h0.le (hpos.imp id fun ⟨e, h1, h2⟩ => ⟨e, h1, fun ha => by rw [hanc e ha] at h2; exact nomatch h2⟩)
      (fun e b he ha => Nat.le_of_not_lt fun hlt => by
        have h1 : listed.getD e false = true := h0.near e b he hlt
        rw [hnot e ha] at h1; exact nomatch h1) _ (hext.sub hgone) (fun t a ht hx he ha => by
        have hmk : D.cl t = .mk := Classical.byContradiction fun hc => by rw [C.cfresh t hc] at ht; exact nomatch ht
        rw [hext.put (fr_at (C.alAt (Nat.le_refl _) hmk) fun b hb => by rw [ht] at hb; obtain rfl := Option.some.inj hb; exact hx)]
        unfold Data.cnt
        rw [hmk]
        dsimp only
        rw [if_pos (hanc t ha), he]
        rfl)
    exact hD hrho s.rel hlook r K Q fun c' w' z s' hz => fin c' w' z x ⟨h0.le, near, far (fun b => by rw [hcl]; exact fun h => nomatch h), by rw [hmem]; exact s.trans (s'.weak hb0)⟩ (s'.le.weak hb0) hz
  | ef y =>
    have hli : D.lev i = some y := by unfold Data.lev; rw [hcl]
    have hyx : y = x := by
      rcases Nat.lt_trichotomy y x with h | h | h
      · have h1 : listed.getD i false = true := h0.near i y hli h
        rw [hnl'] at h1; exact nomatch h1
      · exact h
      · rcases hpos with h1 | ⟨e, he, hse⟩
        · have := (C.efk i y hcl).1; omega
        · rw [hanc e (C.chain i y hcl e x he h)] at hse; exact nomatch hse
    subst hyx
    have hncl : ∀ t, D.cls t ≠ some y := fun t h => by
      have := (C.clsk t y h).2
      rw [(C.efk i y hcl).2] at this; exact nomatch this
    have hext2 : Ext (D.base (y + 1)) (D.fr ops m0.nb y fun j => listed.getD j false) (D.mem ops m0.nb (y + 1) fun j => listed.getD j false) := by
      have := mem_ext (D := D) (ops := ops) (b0 := m0.nb) (y + 1) (fun j => listed.getD j false)
      rw [fr_step hncl] at this; exact this
    have hsame : ∀ {j}, (∀ b, D.cl j ≠ .ef b) → (listed.setIfInBounds i true).getD j false = listed.getD j false := fun {j} h => hother fun e => h y (e ▸ hcl)
    have hmem : D.mem ops m0.nb (y + 1) (fun j => (listed.setIfInBounds i true).getD j false) = D.mem ops m0.nb (y + 1) (fun j => listed.getD j false) :=
      mem_congr C (fun t h => hsame (fun b => by rw [h]; exact fun h => nomatch h)) fun j t h => hsame (fun b => by rw [h]; exact fun h => nomatch h)
    refine C.ef i o y ho hcl hrho ((hext.sub hgone).rel s.rel) hlook r K Q fun c' w' z s' hz => fin c' w' z (y + 1) ⟨(C.efk i y hcl).1, fun j b hb hlt => ?_, fun j b hb hle => ?_, ?_⟩ (s'.le.weak hb0) hz
    · by_cases e : b = y
      · subst e
        unfold Data.lev at hb
        cases hcj : D.cl j <;> rw [hcj] at hb <;> dsimp only at hb
        · exact nomatch hb
        · obtain rfl := Option.some.inj hb
          rw [C.efu j i _ hcj hcl]
          exact getD_new hil
        · exact absurd hb (hncl _)
        · exact absurd hb (hncl _)
      · exact near j b hb (by omega)
    · have hji : j ≠ i := by
        rintro rfl
        rw [hcl] at hb
        have := Cl.ef.inj hb; omega
      show (listed.setIfInBounds i true).getD j false = false
      rw [hother hji]; exact h0.far j b hb (by omega)
    · rw [hmem]
      exact s.trans ((Step.hide s.rel hext hext2 hgone (fr_wr C) s').weak hb0)
  | mk =>
    have hcls : ∀ a, D.cls i = some a → x ≤ a := fun b hb => Nat.le_of_not_lt fun hlt => by
      have h1 : listed.getD i false = true := h0.near i b (by unfold Data.lev; rw [hcl]; exact hb) hlt
      rw [hnl'] at h1; exact nomatch h1
    have hal : alAt ops i = true := C.alAt (Nat.le_refl _) hcl
    have hrsv : (D.mem ops m0.nb x fun j => listed.getD j false).tr.get (m0.nb + i) = some .rsv := by
      rw [hext.put (fr_at hal hcls)]
      unfold Data.cnt
      rw [hcl]
      dsimp only
      rw [if_neg (by rw [hnl']; exact fun h => nomatch h)]
    have hcon : D.cnt i (fun j => (listed.setIfInBounds i true).getD j false) = D.con i := by
      unfold Data.cnt
      rw [hcl]
      dsimp only
      rw [if_pos (getD_new hil), insL_none]
      · rfl
      · rintro ⟨j, kv⟩ hj
        obtain ⟨h1, _⟩ := C.side.ent i j kv hcl hj
        have h2 := hnot j (C.side.ins j i h1).2.1
        show (listed.setIfInBounds i true).getD j false = false
        rw [hother]
        · exact h2
        · rintro rfl; rw [hcl] at h1; exact nomatch h1
    refine (C.side.made i o ho hcl).2.2 _ hrsv hrho s.rel hlook r K Q fun c' w' z s' hz => fin c' w' z x ⟨h0.le, near, far (fun b => by rw [hcl]; exact fun h => nomatch h), (s.trans s').toE ⟨?_, ?_, ?_, fun j => .inl ?_⟩⟩ s'.le hz
    · exact hext.nb.trans hext'.nb.symm
    · exact hext.nt.trans hext'.nt.symm
    · exact hext.tok.trans hext'.tok.symm
    · rw [setB_get]
      by_cases hj : j = m0.nb + i
      · subst hj
        rw [if_pos rfl, hext'.put (fr_at hal hcls), hcon]
      · rw [if_neg hj, hext.tr, hext'.tr]
        congr 1
        refine (fr_congr_at fun t ht => cnt_congr C (fun _ => hother fun e => hj (by rw [ht, e])) fun l hl => hother fun e => ?_).symm
        rw [e, hcl] at hl; exact nomatch hl
  | ins t =>
    obtain ⟨hmk, htanc, kv, hkv⟩ := C.side.ins i t hcl
    obtain ⟨_, hcon, hins⟩ := C.side.ent t i kv hmk hkv
    have hti : t ≠ i := by rintro rfl; rw [hcl] at hmk; exact nomatch hmk
    have hcls : ∀ a, D.cls t = some a → x ≤ a := fun b hb => Nat.le_of_not_lt fun hlt => by
      have h1 : listed.getD i false = true := h0.near i b (by unfold Data.lev; rw [hcl]; exact hb) hlt
      rw [hnl'] at h1; exact nomatch h1
    have hal : alAt ops t = true := C.alAt (Nat.le_refl _) hmk
    have hSt : listed.getD t false = true := hanc t htanc
    have hget : (D.mem ops m0.nb x fun j => listed.getD j false).tr.get (m0.nb + t) = some (entB (D.con t) (insL (D.ent t) fun j => listed.getD j false)) := by
      rw [hext.put (fr_at hal hcls)]
      unfold Data.cnt
      rw [hmk]
      dsimp only
      rw [if_pos hSt]
    have hB : MapB (entB (D.con t) (insL (D.ent t) fun j => listed.getD j false)) (insL (D.ent t) fun j => listed.getD j false) := by
      rw [hcon]
      cases insL (D.ent t) fun j => listed.getD j false with
      | nil => exact .inr ⟨rfl, rfl⟩
      | cons e l => exact .inl rfl
    have hperm := insL_new (kv := kv) (S := fun j => listed.getD j false) hnl' (C.side.nodup t hmk) hkv
    have hS' : insL (D.ent t) (fun j => (listed.setIfInBounds i true).getD j false) = insL (D.ent t) (updN (fun j => listed.getD j false) i true) := insL_congr fun e _ => hnext e.1
    have hcnt' : ∃ l, D.cnt t (fun j => (listed.setIfInBounds i true).getD j false) = .pm l true ∧ l.Perm (insL (D.ent t) (fun j => listed.getD j false) ++ [kv]) := by
      unfold Data.cnt
      rw [hmk]
      dsimp only
      rw [if_pos (hmore hSt), hS']
      cases hl : insL (D.ent t) (updN (fun j => listed.getD j false) i true) with
      | nil => rw [hl] at hperm; exact nomatch hperm.length_eq
      | cons e l => exact ⟨e :: l, rfl, by rw [hl] at hperm; exact hperm.trans (List.perm_append_comm (l₁ := [kv]))⟩
    obtain ⟨l, hl1, hl2⟩ := hcnt'
    have hD := hins o ho _ _ _ hget hB fun e he => by
      obtain ⟨y, hy, hyS, rfl⟩ := mem_insL.1 he
      refine C.side.apart t (i, kv) y hmk hkv hy fun e => ?_
      have e : i = y.1 := e
      rw [← e, hnl'] at hyS; exact nomatch hyS
    refine hD hrho s.rel hlook r K Q fun c' w' z s' hz => fin c' w' z x ⟨h0.le, near, far (fun b => by rw [hcl]; exact fun h => nomatch h), (s.trans (s'.weak hb0)).toE ⟨?_, ?_, ?_, fun j => ?_⟩⟩ (s'.le.weak hb0) hz
    · exact hext.nb.trans hext'.nb.symm
    · exact hext.nt.trans hext'.nt.symm
    · exact hext.tok.trans hext'.tok.symm
    · rw [setB_get]
      by_cases hj : j = m0.nb + t
      · subst hj
        rw [if_pos rfl, hext'.put (fr_at hal hcls), hl1]
        exact .inr ⟨_, _, _, rfl, rfl, hl2.symm⟩
      · rw [if_neg hj, hext.tr, hext'.tr]
        refine .inl ?_
        congr 1
        refine (fr_congr_at fun u hu => cnt_congr C (fun h => hother fun e => ?_) fun l hl => hother fun e => ?_).symm
        · rw [e, hcl] at h; exact nomatch h
        · rw [e, hcl] at hl
          have := Cl.ins.inj hl
          exact hj (by rw [hu, this])

theorem all_listed (F : RegF ops) {listed : Array Bool} (hs : listed.size = ops.size) (h : Region.ready .any ops listed = []) : ∀ (j : Nat), j < ops.size → listed.getD j false = true := by
  intro j
  induction j using Nat.strongRecOn with
  | ind j ih =>
    intro hj
    cases hl : listed.getD j false with
    | true => rfl
    | false =>
      exfalso
      have : j ∈ Region.ready .any ops listed := by
        rw [mem_ready]
        refine ⟨?_, ops[j], Array.getElem?_eq_getElem hj, fun e he hb => ?_⟩
        · have : ∀ d, listed.getD j d = listed[j]'(by omega) := fun d => by simp [Array.getD, hs, hj]
          rw [this] at hl ⊢; exact hl
        · have hlt := F.edges j ops[j] e (Array.getElem?_eq_getElem hj) he hb
          exact ih e.on hlt (by omega)
      rw [h] at this
      simp at this

theorem any_ok (F : RegF ops) (C : Cert P ρ ops n env0 m0 ops.size k D cur) {c0 : Cx} {w0 : World} {a0 : Act} (hρ : c0.ρ = ρ) (hn0 : c0.nb = m0.nb) (hg0 : GlobR c0) {Q : Exit → Act → World → Prop}
    (hQ : ∀ a' w', (∃ c, Step c0 m0 w0 c cur w' ∧ EnvR c n (envT ops D.val env0 ops.size) a' ∧ a'.defers = a0.defers) → Q .normal a' w') (r : Option Nat) :
    ∀ (fuel : Nat) (listed : Array Bool) (a : Act) (w : World), listed.count true + fuel = ops.size → Mid P ρ ops n env0 k D c0 m0 w0 a0 listed a w → wpAnyIn (Fr r) 0 P .any ops Q fuel listed a w := by
  have fin : ∀ (listed : Array Bool) (a : Act) (w : World), Mid P ρ ops n env0 k D c0 m0 w0 a0 listed a w → Region.ready .any ops listed = [] → Q .normal a w := by
    intro listed a w M hr
    have hall := all_listed F M.size hr
    obtain ⟨x, c, h0, hpos, hsz, hsl⟩ := M.pos
    have : x = k := by
      rcases hpos with h | ⟨e, h1, h2⟩
      · exact h
      · rw [hall e (C.levlt h1)] at h2; exact nomatch h2
    subst this
    have s := h0.step.sub ((mem_ext (D := D) (ops := ops) (b0 := m0.nb) x fun j => listed.getD j false).sub (fr_gone C h0.le))
    rw [C.top, ← hn0] at s
    refine hQ a w ⟨c, s, ⟨hsz, fun t => ?_, hg0.mono s.le⟩, M.defers⟩
    rw [← envS_all, ← envS_congr (S' := fun j => listed.getD j false) (S := fun _ => true) (fun j hj _ => hall j hj)]
    exact hsl t
  intro fuel
  induction fuel with
  | zero =>
    intro listed a w hc M
    have hr : Region.ready .any ops listed = [] := by
      rw [List.eq_nil_iff_forall_not_mem]
      intro j hj
      obtain ⟨hnl, o, ho, _⟩ := mem_ready.1 hj
      have hjn : j < listed.size := by rw [M.size]; exact (Array.getElem?_eq_some_iff.1 ho).1
      have : listed.count true = listed.size := by rw [M.size]; omega
      have := Array.count_eq_size.1 this listed[j] (Array.getElem_mem _)
      rw [show listed.getD j true = listed[j] by simp [Array.getD, hjn], ← this] at hnl
      simp at hnl
    exact ⟨hr, fin listed a w M hr⟩
  | succ fuel ih =>
    intro listed a w hc M
    refine ⟨fin listed a w M, fun i hi => mid_step F C hρ hn0 hg0 M hi (fun a' w' M' => ih _ a' w' ?_ M') r⟩
    obtain ⟨hnl, o, ho, _⟩ := mem_ready.1 hi
    have hil : i < listed.size := by rw [M.size]; exact (Array.getElem?_eq_some_iff.1 ho).1
    have hli : listed[i] = false := by
      rw [← hnl]; simp [Array.getD, hil]
    rw [Array.setIfInBounds, dif_pos hil, Array.count_set hil, hli]
    simp
    omega

theorem alsOf_mem : ∀ {l : List Oper} {b s : Nat} {o : Oper}, l[s]? = some o → isAl o.op = true → b + s ∈ alsOf l b
  | [], b, s, o, h, _ => nomatch h
  | x :: l, b, s, o, h, ha => by
    have e : alsOf (x :: l) b = selB (isAl x.op) (b :: alsOf l (b + 1)) (alsOf l (b + 1)) := rfl
    rw [e]
    cases s with
    | zero =>
      obtain rfl := Option.some.inj h
      rw [ha]; exact .head _
    | succ s =>
      have := alsOf_mem (l := l) (b := b + 1) (s := s) h ha
      rw [show b + (s + 1) = b + 1 + s by omega]
      cases isAl x.op with
      | false => exact this
      | true => exact .tail _ this

/-- the start: names are kept for the blocks to come -/
theorem start_at (C : Cert P ρ ops n env0 m0 ops.size k D cur) {c : Cx} {w : World} (hm : MemR c m0 w) : ∃ c1, StepN m0.nb c m0 w c1 (D.mem ops m0.nb 0 fun _ => false) w := by
  let c1 : Cx := { c with nb := c.nb + ops.size, lt := fun i h => Nat.lt_of_lt_of_le (c.lt i h) (Nat.le_add_right _ _) }
  have hle : ∀ {k0}, c.leN k0 c1 := ⟨rfl, Nat.le_add_right _ _, Nat.le_refl _, fun _ h => h, fun _ _ h => h, fun _ _ => rfl, fun _ _ => rfl⟩
  have e := mem_ext (D := D) (ops := ops) (b0 := m0.nb) 0 (fun _ => false)
  have key : ∀ {i b}, (D.mem ops m0.nb 0 fun _ => false).tr.get i = some b → (b = .rsv ∧ ∃ s, i = m0.nb + s ∧ s < ops.size) ∨ m0.tr.get i = some b := by
    intro i b h
    cases hf : D.fr ops m0.nb 0 (fun _ => false) i with
    | none =>
      rw [e.not hf, C.start] at h
      exact .inr h
    | some x =>
      rw [e.put hf] at h
      obtain rfl := Option.some.inj h
      obtain ⟨s, h1, h2, _, h3⟩ := fr_some hf
      refine .inl ⟨?_, s, h1, alAt_lt h2⟩
      rw [h3]
      unfold Data.cnt
      cases D.cl s <;> rfl
  refine ⟨c1, ⟨⟨?_, ?_, fun i b h => ?_, fun i j b b' h h' hij hap l l' => ?_, fun t n ht => hm.tok t n ?_⟩, hle, rfl, rfl, rfl, Nat.le_refl _, fun _ _ _ => rfl, ?_, ?_⟩⟩
  · rw [e.nb, C.start]
    show c.nb + ops.size = m0.nb + ops.size
    rw [hm.nb]
  · rw [e.nt, C.start]; exact hm.nt
  · rcases key h with ⟨rfl, s, rfl, hs⟩ | h
    · refine ⟨?_, fun hh => ?_⟩
      · show m0.nb + s < c.nb + ops.size
        rw [hm.nb]; omega
      · have := c.lt _ hh
        rw [hm.nb] at this; omega
    · exact (hm.blk i b h).on hle fun _ => rfl
  · rcases key h with ⟨rfl, _⟩ | h
    · exact l.elim
    · rcases key h' with ⟨rfl, _⟩ | h'
      · exact l'.elim
      · exact hm.inj i j b b' h h' hij hap ((Blk.live_le (hle (k0 := 0))).1 l) ((Blk.live_le (hle (k0 := 0))).1 l')
  · rw [e.tok, C.start] at ht; exact ht
  · rintro x ⟨i, b, h1, h2, h3⟩
    rcases key h1 with ⟨rfl, _⟩ | h
    · exact nomatch h2
    · exact .inl ⟨i, b, h, h2, h3⟩
  · rintro x ⟨i, b, h1, h2, h3⟩
    rcases key h1 with ⟨rfl, _⟩ | h
    · exact h2.elim
    · exact .inl ⟨i, b, h, (Blk.live_le (hle (k0 := 0))).1 h2, h3⟩
end mid

/-- a region whose order is drawn -/
theorem drawn_any (F : RegF ops) {cf : FuncId → List V → M V} (hcf : CallsOK P ρ cf) {c : Cx} {m m' : Mem} {w : World} {p q : Pc} {env' : Env} {a : Act} (hρ : c.ρ = ρ) (hm : MemR c m w) (hp : PcR ρ p) (he : EnvR c n env0 a)
    (h : (evDrB ops P cf n env0).gives ρ m p env' m' q) (r : Option Nat) (Q : Exit → Act → World → Prop) (hQ : ∀ a' w', PcR ρ q → After c m w m' n env' a a' w' → Q .normal a' w') :
    wpAnyIn (Fr r) 0 P .any ops Q ops.size (Array.replicate ops.size false) a { w with drawn := w.drawn + 1 } := by
  have hlen : lenL ops.toList = ops.size := by rw [lenL_eq]; simp
  have h : (forceN m.nb fun b => evDr ops.toList ops P cf n 0 b (fun _ => 0) env0 [] (alsOf ops.toList b) [] [] (upM m (lenL ops.toList)) p).out ρ = some ⟨env', m', q⟩ := h
  rw [forceN_eq, hlen] at h
  have hm0 : ∀ s, m.tr.get (m.nb + s) = none := fun s => by
    cases hg : m.tr.get (m.nb + s) with
    | none => rfl
    | some b =>
      have := (hm.blk _ b hg).lt
      rw [hm.nb] at this; omega
  let D0 : Data := ⟨fun _ => undefV, fun _ => .rd, fun _ => .rsv, fun _ => [], fun _ => 0, fun _ => none, fun _ => none, fun _ => upM m ops.size⟩
  have C0 : Cert P ρ ops n env0 m 0 0 D0 (upM m ops.size) :=
    ⟨⟨fun _ _ => rfl, fun _ _ _ h => (nomatch h), fun _ _ h => (nomatch h), fun _ _ _ h => (nomatch h), fun _ h => (nomatch h), fun _ _ _ h => (nomatch h)⟩,
      fun _ _ => rfl, fun _ _ _ _ h => (nomatch h), fun _ _ h => (nomatch h), fun _ _ _ h => (nomatch h), fun _ _ h => (nomatch h), fun j _ _ h => by omega, fun a h => by omega, fun a _ h => by omega, fun _ _ h => (nomatch h), fun _ s _ _ _ => hm0 s, rfl, rfl, fun j _ h => by omega⟩
  have N0 : Mind P ρ ops n env0 m 0 0 D0 [] (alsOf ops.toList m.nb) [] [] :=
    ⟨rfl, fun a s hs => by simp at hs, fun s ha _ => by
      unfold alAt at ha
      cases ho : ops[s]? with
      | none => rw [ho] at ha; exact nomatch ha
      | some o => rw [ho] at ha; exact alsOf_mem (by simpa using ho) ha, fun g hg => (nomatch hg), List.nodup_nil, fun j _ h => by omega⟩
  obtain ⟨k, D, C, r2, r4⟩ := evDr_ok hcf (m0 := m) (l := ops.toList) (i := 0) (k := 0) (D := D0) rfl (by simp) rfl (fun j b hb => by simp at hb) hp C0 N0 h
  have hw : MemR c m { w with drawn := w.drawn + 1 } := ⟨hm.nb, hm.nt, fun i b hb => (hm.blk i b hb).on (Cx.le.refl c) fun _ => rfl, hm.inj, hm.tok⟩
  have s0 : Step c m w c m { w with drawn := w.drawn + 1 } := ⟨hw, Cx.le.refl c, rfl, rfl, rfl, Nat.le_refl _, fun _ _ _ => rfl, fun _ h => .inl h, fun _ h => .inl h⟩
  have hnone : ∀ j, (Array.replicate ops.size false).getD j false = false := fun j => by simp [Array.getD, Array.getElem_replicate]
  have hnf : (fun j => (Array.replicate ops.size false).getD j false) = fun _ => false := funext hnone
  obtain ⟨c1, s1⟩ := start_at C hw
  obtain ⟨x, a1, a2⟩ := At0.norm C (S := fun _ => false) k 0 (by omega) ⟨by omega, fun _ _ _ h => by omega, fun _ _ _ _ => rfl, s1⟩
  refine any_ok F C hρ hm.nb he.glob (a0 := a) (w0 := { w with drawn := w.drawn + 1 }) (fun a' w' hA => ?_) r ops.size _ a _ (by simp [Array.count_replicate]) ⟨by simp, ?_, ⟨x, c1, ?_, ?_, he.size, ?_⟩, rfl⟩
  · obtain ⟨c', s, h1, h2⟩ := hA
    exact hQ a' w' r4 ⟨c', s0.trans s, by rw [show env' = _ from r2]; exact h1, h2⟩
  · intro j j' hj
    rw [hnone j] at hj; exact nomatch hj
  · rw [hnf]; exact a1
  · exact a2.imp (fun h => h) fun ⟨e, h1, h2⟩ => ⟨e, h1, hnone e⟩
  · intro t
    have e : envS ops D.val env0 (fun j => (Array.replicate ops.size false).getD j false) ops.size t = env0 t := by
      rw [envS_congr (S := fun j => decide (j < 0)) (fun j hj _ => by simp [Array.getD]), envS_cut (Nat.zero_le _)]
      rfl
    rw [e]; exact (he.slot t).mono s1.le

/-! ### in another order -/

theorem posN_nth {l : List Nat} {i k : Nat} (h : posN l i = k) (hk : k < l.length) : l[k]? = some i := by
  induction l generalizing k with
  | nil => simp at hk
  | cons j r ih =>
    have h : selB (Nat.beq j i) 0 (Nat.succ (posN r i)) = k := h
    cases hb : Nat.beq j i with
    | true => rw [hb] at h; rw [beq_iff] at hb; have h : 0 = k := h; subst h; simp [hb]
    | false =>
      rw [hb] at h
      have h : posN r i + 1 = k := h
      subst h
      simpa using ih rfl (by simpa using hk)

theorem posN_no {l : List Nat} {i : Nat} (h : i ∉ l) : posN l i = l.length := by
  induction l with
  | nil => rfl
  | cons j r ih =>
    show selB (Nat.beq j i) 0 (Nat.succ (posN r i)) = _
    rw [(beq_false j i).2 (fun e => h (e ▸ .head _)), ih (fun e => h (.tail _ e))]
    rfl

/-- the one region is the other one in another order -/
structure PermR (l : List Nat) (ops ops' : Array Oper) : Prop where
  sz : ops'.size = ops.size
  op : ∀ i o, ops[i]? = some o → ops'[posN l i]? = some (reOper l o)
  back : ∀ k, k < ops.size → ∃ i, i < ops.size ∧ posN l i = k
  inj : ∀ i j, i < ops.size → j < ops.size → posN l i = posN l j → i = j
  out : ∀ i, ops.size ≤ i → posN l i = ops.size
  lt : ∀ i, i < ops.size → posN l i < ops.size

theorem permR_of {l : List Nat} {ops : Array Oper} (h : okPerm l ops.size = true) : PermR l ops (permO l ops) := by
  obtain ⟨h1, h⟩ := andB_ok h
  obtain ⟨h2, h⟩ := andB_ok h
  obtain ⟨h3, h4⟩ := andB_ok h
  rw [beq_iff, lenL_eq] at h1
  have lt : ∀ i, i < ops.size → posN l i < ops.size := fun i hi => (blt_iff _ _).1 (allL_ok h3 i (List.mem_range.2 hi))
  have at' : ∀ i, i < ops.size → l[posN l i]? = some i := fun i hi => posN_nth rfl (by rw [h1]; exact lt i hi)
  refine ⟨by simp [permO, h1], fun i o ho => ?_, fun k hk => ?_, fun i j hi hj e => ?_, fun i hi => ?_, lt⟩
  · have hi : i < ops.size := (Array.getElem?_eq_some_iff.1 ho).1
    simp [permO, at' i hi, ho]
  · have h5 := allL_ok h4 k (List.mem_range.2 hk)
    rw [nth_eq] at h5
    cases hn : l[k]? with
    | none => rw [hn] at h5; exact absurd (show false = true from h5) (by simp)
    | some i =>
      rw [hn] at h5
      exact ⟨i, (blt_iff _ _).1 (allL_ok h2 i (List.mem_of_getElem? hn)), (beq_iff _ _).1 h5⟩
  · have e1 := at' i hi
    rw [e, at' j hj] at e1
    exact (Option.some.inj e1).symm
  · rw [posN_no (fun hm => by have := (blt_iff _ _).1 (allL_ok h2 i hm); omega), h1]

theorem wpIn_re {F : Fence} {N : Nat} {l : List Nat} {o : Oper} {a : Act} {w : World} {K : Act → World → Prop} {Q : Exit → Act → World → Prop} (h : (reOper l o).wpIn F N P a w K Q) : o.wpIn F N P a w K Q := by
  cases o; exact h

theorem binds_re (l : List Nat) (e : Edge) : Region.binds .any (reEdge l e) = Region.binds .any e := by
  rw [← bindsB_eq, ← bindsB_eq]; rfl

theorem yielded_re {l : List Nat} {ops ops' : Array Oper} (H : PermR l ops ops') (t : Array Value) (j : Nat) : yielded ops' t (posN l j) = yielded ops t j := by
  have e : (ops'[posN l j]?).bind (·.dst) = (ops[j]?).bind (·.dst) := by
    cases ho : ops[j]? with
    | some o => rw [H.op j o ho]; rfl
    | none =>
      have hj : ops.size ≤ j := Array.getElem?_eq_none_iff.1 ho
      rw [H.out j hj, Array.getElem?_eq_none (by rw [H.sz]; exact Nat.le_refl _)]
  unfold yielded
  rw [e]

theorem wanted_re {l : List Nat} {ops ops' : Array Oper} (H : PermR l ops ops') (t : Array Value) (o : Oper) : Region.wanted (reOper l o) (yielded ops' t) = Region.wanted o (yielded ops t) := by
  obtain ⟨d, op, ty, pos, af, g⟩ := o
  cases g with
  | none => rfl
  | some g =>
    unfold Region.wanted reOper
    simp only [Option.map]
    rw [yielded_re H]

theorem ready_re {l : List Nat} {ops ops' : Array Oper} (H : PermR l ops ops') {listed listed' : Array Bool} (h1 : listed.size = ops.size) (h2 : listed'.size = ops.size) (hl : ∀ j, listed'.getD (posN l j) false = listed.getD j false) {i : Nat} (hi : i < ops.size) :
    posN l i ∈ Region.ready .any ops' listed' ↔ i ∈ Region.ready .any ops listed := by
  have e : listed'.getD (posN l i) true = listed.getD i true := by
    have := hl i
    have hp := H.lt i hi
    simpa [Array.getD, h1, h2, hi, hp] using this
  obtain ⟨o, ho⟩ : ∃ o, ops[i]? = some o := ⟨ops[i], Array.getElem?_eq_getElem hi⟩
  rw [mem_ready, mem_ready, e]
  refine and_congr_right fun _ => ⟨fun ⟨o', h3, h4⟩ => ⟨o, ho, fun x hx hb => ?_⟩, fun ⟨o', h3, h4⟩ => ⟨reOper l o, H.op i o ho, fun x hx hb => ?_⟩⟩
  · rw [H.op i o ho] at h3
    obtain rfl := Option.some.inj h3
    have := h4 (reEdge l x) (by simpa [reOper] using ⟨x, hx, rfl⟩) (by rw [binds_re]; exact hb)
    rw [← hl x.on]; exact this
  · rw [ho] at h3
    obtain rfl := Option.some.inj h3
    obtain ⟨y, hy, rfl⟩ : ∃ y, y ∈ o.after ∧ reEdge l y = x := by simpa [reOper] using hx
    rw [binds_re] at hb
    show listed'.getD (posN l y.on) false = true
    rw [hl]; exact h4 y hy hb

theorem perm_any {l : List Nat} {ops ops' : Array Oper} (H : PermR l ops ops') {F : Fence} {N : Nat} {Q : Exit → Act → World → Prop} : ∀ (fuel : Nat) (listed listed' : Array Bool) (a : Act) (w : World), listed.size = ops.size → listed'.size = ops.size →
    (∀ j, listed'.getD (posN l j) false = listed.getD j false) → wpAnyIn F N P .any ops' Q fuel listed' a w → wpAnyIn F N P .any ops Q fuel listed a w := by
  have none' : ∀ (listed listed' : Array Bool), listed.size = ops.size → listed'.size = ops.size → (∀ j, listed'.getD (posN l j) false = listed.getD j false) → Region.ready .any ops listed = [] → Region.ready .any ops' listed' = [] := by
    intro listed listed' h1 h2 hl h
    rw [List.eq_nil_iff_forall_not_mem]
    intro k hk
    obtain ⟨_, o', ho', _⟩ := mem_ready.1 hk
    have hk' : k < ops.size := by rw [← H.sz]; exact (Array.getElem?_eq_some_iff.1 ho').1
    obtain ⟨i, hi, rfl⟩ := H.back k hk'
    rw [ready_re H h1 h2 hl hi, h] at hk
    exact nomatch hk
  have none2 : ∀ (listed listed' : Array Bool), listed.size = ops.size → listed'.size = ops.size → (∀ j, listed'.getD (posN l j) false = listed.getD j false) → Region.ready .any ops' listed' = [] → Region.ready .any ops listed = [] := by
    intro listed listed' h1 h2 hl h
    rw [List.eq_nil_iff_forall_not_mem]
    intro i hi
    obtain ⟨_, o, ho, _⟩ := mem_ready.1 hi
    have hi' : i < ops.size := (Array.getElem?_eq_some_iff.1 ho).1
    rw [← ready_re H h1 h2 hl hi', h] at hi
    exact nomatch hi
  intro fuel
  induction fuel with
  | zero => intro listed listed' a w h1 h2 hl h; exact ⟨none2 _ _ h1 h2 hl h.1, h.2⟩
  | succ fuel ih =>
    intro listed listed' a w h1 h2 hl h
    refine ⟨fun h0 => h.1 (none' _ _ h1 h2 hl h0), fun i hi => ?_⟩
    obtain ⟨_, o, ho, _⟩ := mem_ready.1 hi
    have hi' : i < ops.size := (Array.getElem?_eq_some_iff.1 ho).1
    have h3 := h.2 _ ((ready_re H h1 h2 hl hi').2 hi)
    have next : ∀ a w, wpAnyIn F N P .any ops' Q fuel (listed'.setIfInBounds (posN l i) true) a w → wpAnyIn F N P .any ops Q fuel (listed.setIfInBounds i true) a w := by
      intro a w h4
      refine ih _ _ a w (by simpa using h1) (by simpa using h2) (fun j => ?_) h4
      have hp := H.lt i hi'
      have hset : ∀ (x : Array Bool) (k q : Nat), k < x.size → (x.setIfInBounds k true).getD q false = if q = k then true else x.getD q false := by
        intro x k q hk
        rw [Array.getD_eq_getD_getElem?, Array.getD_eq_getD_getElem?, Array.getElem?_setIfInBounds]
        by_cases e : k = q
        · subst e; simp [hk]
        · simp [e, Ne.symm e]
      rw [hset _ _ _ (by rw [h2]; exact hp), hset _ _ _ (by rw [h1]; exact hi')]
      by_cases e : j = i
      · subst e; simp
      · have : ¬ posN l j = posN l i := by
          intro e2
          rcases Nat.lt_or_ge j ops.size with hj | hj
          · exact e (H.inj j i hj hi' e2)
          · rw [H.out j hj] at e2; omega
        rw [if_neg this, if_neg e]; exact hl j
    unfold wpOpIn at h3 ⊢
    rw [H.op i o ho] at h3
    rw [ho]
    simp only at h3 ⊢
    rw [wanted_re H] at h3
    split
    · rename_i hw
      rw [if_pos hw] at h3
      exact Oper.wpIn_mono next (wpIn_re h3)
    · rename_i hw
      rw [if_neg hw] at h3
      exact ⟨h3.1, next _ _ h3.2⟩

/-- a region whose order is drawn -/
theorem drawnP_ok (F : RegF ops) (hP : P.follows .mixedOrders = true) {cf : FuncId → List V → M V} (hcf : CallsOK P ρ cf) {c : Cx} {m m' : Mem} {w : World} {p q : Pc} {env' : Env} {a : Act} {id : Nat} (hρ : c.ρ = ρ) (hm : MemR c m w) (hp : PcR ρ p) (he : EnvR c n env0 a)
    (h : (evDrP ops P cf n env0).gives ρ m p env' m' q) (r : Option Nat) (Q : Exit → Act → World → Prop) (hQ : ∀ a' w', PcR ρ q → After c m w m' n env' a a' w' → Q .normal a' w') :
    (Code.region id ops true).wpIn (Fr r) 0 P Q a w := by
  refine wpIn_region_any hP ?_
  have h : (T.rec (fun a => T.ret a) (fun c x y _ _ => T.br c x y) (fun s => evPerm (orderL ops.toList) ops P cf n env0 s m p) (evDrB ops P cf n env0 m p) : T (Rs Env)).out ρ = some ⟨env', m', q⟩ := h
  cases ht : evDrB ops P cf n env0 m p with
  | ret b => rw [ht] at h; exact drawn_any F hcf hρ hm hp he (by unfold M.gives; rw [ht]; exact h) r Q hQ
  | br b x y => rw [ht] at h; exact drawn_any F hcf hρ hm hp he (by unfold M.gives; rw [ht]; exact h) r Q hQ
  | fail s =>
    rw [ht] at h
    obtain ⟨h1, h2⟩ := T.out_selB (show (selB (andB (okPerm (orderL ops.toList) (lenL ops.toList)) (regOK (permO (orderL ops.toList) ops))) (evDrB (permO (orderL ops.toList) ops) P cf n env0 m p) (.fail s)).out ρ = some ⟨env', m', q⟩ from h)
    obtain ⟨h3, h4⟩ := andB_ok h1
    have hlen : lenL ops.toList = ops.size := by rw [lenL_eq]; simp
    rw [hlen] at h3
    generalize orderL ops.toList = l at h2 h3 h4
    have H := permR_of h3
    have key := drawn_any (regF_of h4) hcf hρ hm hp he h2 r Q hQ
    rw [H.sz] at key
    refine perm_any H _ _ _ _ _ (by simp) (by simp) (fun j => ?_) key
    simp [Array.getD]

end run

end Go.Sy

/-
  What is proved here: the evaluator's code and calls are the model's.
  Conditions: none.
-/
namespace Go.Sy

/-- from a loop's round on -/
def RoundWp (P : Program) (c : Code) (Q : Exit → Act → World → Prop) (a : Act) (w : World) : Prop :=
  ∀ (b : Frame) (k : List Item) (cs : List Frame), ∃ e a' w', Q e a' w' ∧ Arrives P (lone (b.at a (.code c :: .inLoop c :: k)) cs w) b k cs e a' w'

theorem RoundWp.round {P : Program} {c : Code} {Q : Exit → Act → World → Prop} {a : Act} {w : World} (h : c.wp P (Exit.then (RoundWp P c Q) Q) a w) : RoundWp P c Q a w := by
  intro b k cs
  obtain ⟨e, a₁, w₁, hq, harr⟩ := h b (.inLoop c :: k) cs
  cases e with
  | normal =>
    obtain ⟨e₂, a₂, w₂, hq₂, harr₂⟩ := hq b k cs
    exact ⟨e₂, a₂, w₂, hq₂, .of_steps (Steps.trans harr (.one step_inLoop)) harr₂⟩
  | exit id => exact ⟨_, a₁, w₁, hq, .pass (x := .inLoop c) rfl (fun _ _ => .inl (by simp)) harr⟩
  | goto l => exact ⟨_, a₁, w₁, hq, .pass (x := .inLoop c) rfl (fun _ _ => .inl (by simp)) harr⟩
  | ret => exact ⟨_, a₁, w₁, hq, .pass (x := .inLoop c) rfl (fun _ _ => .inl (by simp)) harr⟩
  | panic ch => exact ⟨_, a₁, w₁, hq, .pass (x := .inLoop c) rfl (fun _ _ => .inl (by simp)) harr⟩
  | outgrown => exact ⟨_, a₁, w₁, hq, .pass (x := .inLoop c) rfl (fun _ _ => .inl (by simp)) harr⟩

theorem RoundWp.loop {P : Program} {c : Code} {Q : Exit → Act → World → Prop} {a : Act} {w : World} (h : RoundWp P c Q a w) : (Code.loop c).wp P Q a w := by
  intro b k cs
  obtain ⟨e, a', w', hq, harr⟩ := h b k cs
  exact ⟨e, a', w', hq, .of_steps (.one step_loop) harr⟩

/-! ### the same, the frame being in a round or not -/

/-- from a loop's round on -/
def RndWp (r : Option Nat) (P : Program) (c : Code) (Q : Exit → Act → World → Prop) (a : Act) (w : World) : Prop :=
  ∀ (b : Frame) (k : List Item) (cs : List Frame), b.roundOf = r → ∃ e a' w', Q e a' w' ∧ ArrivesIn (Machine.fenced P (Fr r)) P (lone (b.atR a (.code c :: .inLoop c :: k)) cs w) b k cs e a' w'

theorem fr_room {r : Option Nat} (n : Nat) : (Fr r).room n := fun _ h => nomatch h
theorem fr_fenced {r : Option Nat} {P : Program} (m : Machine) : m.fenced P (Fr r) := fenced_wide P m

theorem RndWp.round {r : Option Nat} {P : Program} {c : Code} {Q : Exit → Act → World → Prop} {a : Act} {w : World} (h : c.wpIn (Fr r) 0 P (Exit.then (RndWp r P c Q) Q) a w) : RndWp r P c Q a w := by
  intro b k cs hro
  obtain ⟨e, a₁, w₁, hq, harr⟩ := h b (.inLoop c :: k) cs hro trivial (fr_room _)
  cases e with
  | normal =>
    obtain ⟨e₂, a₂, w₂, hq₂, harr₂⟩ := hq b k cs hro
    exact ⟨e₂, a₂, w₂, hq₂, .of_steps (StepsIn.trans harr (.one (fr_fenced _) stepR_inLoop)) harr₂⟩
  | exit id => exact ⟨_, a₁, w₁, hq, .pass (x := .inLoop c) rfl (fun _ _ => .inl (by simp)) harr⟩
  | goto l => exact ⟨_, a₁, w₁, hq, .pass (x := .inLoop c) rfl (fun _ _ => .inl (by simp)) harr⟩
  | ret => exact ⟨_, a₁, w₁, hq, .pass (x := .inLoop c) rfl (fun _ _ => .inl (by simp)) harr⟩
  | panic ch => exact ⟨_, a₁, w₁, hq, .pass (x := .inLoop c) rfl (fun _ _ => .inl (by simp)) harr⟩
  | outgrown => exact ⟨_, a₁, w₁, hq, .pass (x := .inLoop c) rfl (fun _ _ => .inl (by simp)) harr⟩

theorem RndWp.loop {r : Option Nat} {P : Program} {c : Code} {Q : Exit → Act → World → Prop} {a : Act} {w : World} (h : RndWp r P c Q a w) : (Code.loop c).wpIn (Fr r) 0 P Q a w := by
  intro b k cs hro _ _
  obtain ⟨e, a', w', hq, harr⟩ := h b k cs hro
  exact ⟨e, a', w', hq, .of_steps (.one (fr_fenced _) stepR_loop) harr⟩

/-! ### marks of ranges over functions -/

def mark (D : Nat) : Deferred := { target := .collected D, args := #[] }

/-- the marks are of blocks that hold no deferred calls -/
structure MarksR (s : Nat) (w : World) (Ds : List Nat) : Prop where
  nodup : Ds.Nodup
  lies : ∀ D ∈ Ds, s ≤ D ∧ w.heap[D]? = some (.deferred (some []))

theorem MarksR.nil {s : Nat} {w : World} : MarksR s w [] := ⟨List.nodup_nil, fun _ h => nomatch h⟩

/-- what holds deferred calls is no block -/
theorem not_wr_deferred {c : Cx} {m : Mem} {w : World} (hm : MemR c m w) {D : Nat} {x : Option (List Deferred)} (h : w.heap[D]? = some (.deferred x)) : ¬ Ad c m D := by
  rintro ⟨i, blk, h1, h2, h3⟩
  obtain ⟨_, hb⟩ := (hm.blk i blk h1).live h2
  cases blk with
  | cells => obtain ⟨cs, t, fr, g, _⟩ := hb; rw [h3, h] at g; cases g
  | map => obtain ⟨es', g, _⟩ := hb; rw [h3, h] at g; cases g
  | pm => obtain ⟨es', k, g, _⟩ := hb; rw [h3, h] at g; cases g
  | rsv => exact hb
  | siter => obtain ⟨_, ⟨_, _, _, _, g, _⟩ | ⟨_, _, _, _, g, _⟩⟩ := hb <;> (rw [h3, h] at g; cases g)
  | srow => obtain ⟨cs, t, fr, g, _⟩ := hb h2; rw [h3, h] at g; cases g
  | lp => obtain ⟨fn, tmps, df, g, _⟩ := hb; rw [h3, h] at g; cases g

theorem Wr.ad {c : Cx} {m : Mem} {b : Nat} (h : Wr c m b) : Ad c m b := by
  obtain ⟨i, blk, h1, h2, h3⟩ := h
  exact ⟨i, blk, h1, Blk.wr_live h2, h3⟩

theorem Step.deferred {c c' : Cx} {m m' : Mem} {w w' : World} (hm : MemR c m w) (s : Step c m w c' m' w') {D : Nat} {x : Option (List Deferred)} (h : w.heap[D]? = some (.deferred x)) : w'.heap[D]? = some (.deferred x) := by
  rw [s.frame D (Array.getElem?_eq_some_iff.1 h).1 (fun hw => not_wr_deferred hm h hw.ad)]; exact h

theorem MarksR.step {s : Nat} {c c' : Cx} {m m' : Mem} {w w' : World} (hm : MemR c m w) (st : Step c m w c' m' w') {Ds : List Nat} (h : MarksR s w Ds) : MarksR s w' Ds :=
  ⟨h.nodup, fun D hD => ⟨(h.lies D hD).1, st.deferred hm (h.lies D hD).2⟩⟩

theorem MarksR.append {s : Nat} {w w' : World} {Ds Es : List Nat} (h : MarksR s w Ds) (h' : MarksR s w' Ds) (k : MarksR w.heap.size w' Es) (hs : s ≤ w.heap.size) : MarksR s w' (Es ++ Ds) := by
  refine ⟨List.nodup_append.2 ⟨k.nodup, h.nodup, fun a ha b hb e => ?_⟩, fun D hD => ?_⟩
  · subst e
    have h1 := (k.lies a ha).1
    have h2 := (Array.getElem?_eq_some_iff.1 (h.lies a hb).2).1
    omega
  · rcases List.mem_append.1 hD with hD | hD
    · exact ⟨Nat.le_trans hs (k.lies D hD).1, (k.lies D hD).2⟩
    · exact h'.lies D hD

/-- no range over a function -/
def noRF : Code → Bool
  | .seq a b => noRF a && noRF b
  | .cond _ a b => noRF a && noRF b
  | .block _ a => noRF a
  | .loop a => noRF a
  | .scope a => noRF a
  | .rangeFunc _ _ _ _ => false
  | _ => true

/-- behind a piece: the memory 'm'', the slots 'env'', marks more; 'fl': none -/
def AfterM (fl : Bool) (c : Cx) (m : Mem) (w : World) (m' : Mem) (n : Nat) (env' : Env) (a a' : Act) (w' : World) : Prop :=
  ∃ c' Ds, Step c m w c' m' w' ∧ EnvR c' n env' a' ∧ a'.defers = Ds.map mark ++ a.defers ∧ MarksR w.heap.size w' Ds ∧ (fl = true → Ds = [])

theorem After.M {fl : Bool} {c : Cx} {m m' : Mem} {w w' : World} {n : Nat} {env' : Env} {a a' : Act} (h : After c m w m' n env' a a' w') : AfterM fl c m w m' n env' a a' w' := by
  obtain ⟨c', s, he, hd⟩ := h
  exact ⟨c', [], s, he, hd, .nil, fun _ => rfl⟩

theorem AfterM.plain {c : Cx} {m m' : Mem} {w w' : World} {n : Nat} {env' : Env} {a a' : Act} (h : AfterM true c m w m' n env' a a' w') : After c m w m' n env' a a' w' := by
  obtain ⟨c', Ds, s, he, hd, _, hf⟩ := h
  rw [hf rfl] at hd
  exact ⟨c', s, he, hd⟩

theorem AfterM.weak {fl fl' : Bool} (hf : fl' = true → fl = true) {c : Cx} {m m' : Mem} {w w' : World} {n : Nat} {env' : Env} {a a' : Act} (h : AfterM fl c m w m' n env' a a' w') : AfterM fl' c m w m' n env' a a' w' := by
  obtain ⟨c', Ds, s, he, hd, hm, h⟩ := h
  exact ⟨c', Ds, s, he, hd, hm, fun e => h (hf e)⟩

theorem AfterM.trans {fl fl' : Bool} {c : Cx} {m m1 m' : Mem} {w w1 w2 : World} {n : Nat} {env' : Env} {a a1 a2 : Act} {c1 : Cx} {Ds : List Nat} (s : Step c m w c1 m1 w1) (d : a1.defers = Ds.map mark ++ a.defers) (hM : MarksR w.heap.size w1 Ds) (hf : fl = true → Ds = [])
    (h : AfterM fl' c1 m1 w1 m' n env' a1 a2 w2) : AfterM (fl && fl') c m w m' n env' a a2 w2 := by
  obtain ⟨c', Es, h1, h2, h3, h4, h5⟩ := h
  refine ⟨c', Es ++ Ds, s.trans h1, h2, by rw [h3, d, List.map_append, List.append_assoc], hM.append (hM.step s.rel h1) h4 s.size, fun e => ?_⟩
  rw [Bool.and_eq_true] at e
  rw [hf e.1, h5 e.2]; rfl

def exitOf : X → Exit
  | .normal => .normal
  | .exit id => .exit id
  | .ret => .ret
  | .goto l => .goto l

/-- the code does what the evaluator says; 'fl': no marks are left -/
def CodeOK (rd fl : Bool) (P : Program) (ρ : Nat → Int) (n : Nat) (code : Code) (ev : Env → M XE) : Prop :=
  ∀ ⦃c : Cx⦄ ⦃m m' : Mem⦄ ⦃w : World⦄ ⦃p q : Pc⦄ ⦃env : Env⦄ ⦃r : XE⦄ ⦃a : Act⦄, c.ρ = ρ → MemR c m w → PcR c.ρ p → EnvR c n env a → (ev env).gives c.ρ m p r m' q →
    ∀ (z : Option Nat), (rd = false → z = none) → ∀ (Q : Exit → Act → World → Prop), (∀ a' w', PcR c.ρ q → AfterM fl c m w m' n r.env a a' w' → Q (exitOf r.x) a' w') → code.wpIn (Fr z) 0 P Q a w

section ops
variable {P : Program} {ρ : Nat → Int} {n : Nat} {rd fl : Bool}

theorem CodeOK.weak {fl' : Bool} {code : Code} {ev : Env → M XE} (hf : fl' = true → fl = true) (h : CodeOK rd fl P ρ n code ev) : CodeOK rd fl' P ρ n code ev :=
  fun _ _ _ _ _ _ _ _ _ h1 h2 h3 h4 h5 z hz Q hQ => h h1 h2 h3 h4 h5 z hz Q fun a' w' hq hA => hQ a' w' hq (hA.weak hf)

theorem iter0_gives {c : Cx} {m m' : Mem} {p q : Pc} {r : XE} {s : XO} (h : (iter0 r).gives c.ρ m p s m' q) : m' = m ∧ q = p ∧ s.env = r.env ∧ s.x = (match r.x with | .normal => none | x => some x) := by
  obtain ⟨x, env⟩ := r
  cases x
  · obtain ⟨rfl, rfl, rfl⟩ := M.gives_pure (show (M.pure (⟨none, env⟩ : XO)).gives c.ρ m p s m' q from h); exact ⟨rfl, rfl, rfl, rfl⟩
  · obtain ⟨rfl, rfl, rfl⟩ := M.gives_pure (show (M.pure (⟨some (.exit _), env⟩ : XO)).gives c.ρ m p s m' q from h); exact ⟨rfl, rfl, rfl, rfl⟩
  · obtain ⟨rfl, rfl, rfl⟩ := M.gives_pure (show (M.pure (⟨some .ret, env⟩ : XO)).gives c.ρ m p s m' q from h); exact ⟨rfl, rfl, rfl, rfl⟩
  · obtain ⟨rfl, rfl, rfl⟩ := M.gives_pure (show (M.pure (⟨some (.goto _), env⟩ : XO)).gives c.ρ m p s m' q from h); exact ⟨rfl, rfl, rfl, rfl⟩

/-- where a loop goes on -/
def goesTo (z : Option Nat) (P : Program) (code : Code) (Q : Exit → Act → World → Prop) (x : Option X) (a : Act) (w : World) : Prop :=
  match x with
  | none => RndWp z P code Q a w
  | some x => Q (exitOf x) a w

theorem iter_ok {code : Code} {body : Env → M XE} (hb : CodeOK rd fl P ρ n code body) : ∀ (k : Nat) {c : Cx} {m m' : Mem} {w : World} {p q : Pc} {env : Env} {r : XO} {a : Act}, c.ρ = ρ → MemR c m w → PcR c.ρ p → EnvR c n env a → (iter body k env).gives c.ρ m p r m' q →
    ∀ (z : Option Nat), (rd = false → z = none) → ∀ (Q : Exit → Act → World → Prop), (∀ a' w', PcR c.ρ q → AfterM fl c m w m' n r.env a a' w' → goesTo z P code Q r.x a' w') → RndWp z P code Q a w
  | 0, c, m, m', w, p, q, env, r, a, hρ, hm, hp, he, h => by
    obtain ⟨r0, m1, p1, h1, h2⟩ := M.gives_bnd (show ((body env).bnd iter0).gives c.ρ m p r m' q by
      have h : ((body (frcE env)).bnd iter0).gives c.ρ m p r m' q := h
      rwa [frcE_eq] at h)
    obtain ⟨rfl, rfl, h3, h4⟩ := iter0_gives h2
    intro z hz Q hQ
    refine RndWp.round (hb hρ hm hp he h1 z hz _ fun a' w' hq hA => ?_)
    have hg := hQ a' w' hq (by rw [h3]; exact hA)
    obtain ⟨x, env'⟩ := r0
    rw [h4] at hg
    cases x <;> exact hg
  | k + 1, c, m, m', w, p, q, env, r, a, hρ, hm, hp, he, h => by
    obtain ⟨r0, m1, p1, h1, h2⟩ := M.gives_bnd (show ((iter body k env).bnd fun r => onXO r fun x e => (Option.rec (iter body k e) (fun _ => M.pure r) x : M XO)).gives c.ρ m p r m' q from h)
    intro z hz Q hQ
    refine iter_ok hb k hρ hm hp he h1 z hz Q fun a1 w1 hp1 hA => ?_
    obtain ⟨x, env1⟩ := r0
    cases x with
    | none =>
      obtain ⟨c1, Ds, s1, he1, hd, hD, hf⟩ := hA
      have hr := s1.le.ρ
      exact iter_ok hb k (hr.trans hρ) s1.rel (by rw [hr]; exact hp1) he1 (by rw [hr]; exact h2) z hz Q fun a2 w2 hq hA2 => hQ a2 w2 (by rw [← hr]; exact hq) ((hA2.trans s1 hd hD hf).weak (by simp))
    | some x =>
      obtain ⟨rfl, rfl, rfl⟩ := M.gives_pure (show (M.pure (⟨some x, env1⟩ : XO)).gives c.ρ m1 p1 r m' q from h2)
      exact hQ a1 w1 hp1 hA

theorem condV_gives {c : Cx} {m : Mem} {p q : Pc} {v : V} {x : Value} {b : Bool} (hp : PcR c.ρ p) (hv : VR c v x) (h : (condV v).gives c.ρ m p b q) : PcR c.ρ q ∧ x = .bool b := by
  obtain ⟨e, rfl, h1⟩ := onBool_gives h
  obtain ⟨h2, h3⟩ := decR_gives hp h1
  rw [VR.bool] at hv
  exact ⟨h3, by rw [hv, h2]⟩

/-! ### labels -/

/-- in a scope, from some code of it on -/
def ScopeWp (z : Option Nat) (P : Program) (body c : Code) (Q : Exit → Act → World → Prop) (a : Act) (w : World) : Prop :=
  ∀ (b : Frame) (k : List Item) (cs : List Frame), b.roundOf = z → ∃ e a' w', Q e a' w' ∧ ArrivesIn (Machine.fenced P (Fr z)) P (lone (b.atR a (.code c :: .inScope body :: k)) cs w) b k cs e a' w'

/-- what a scope's code leads to -/
def scopeQ (z : Option Nat) (P : Program) (body : Code) (Q : Exit → Act → World → Prop) : Exit → Act → World → Prop
  | .goto l, a, w => match findLabel body l with
    | some rest => ScopeWp z P body rest Q a w
    | none => Q (.goto l) a w
  | e, a, w => Q e a w

theorem stepR_inScope {P : Program} {b : Frame} {a : Act} {k : List Item} {cs : List Frame} {w : World} {body : Code} : step P (lone (b.atR a (.inScope body :: k)) cs w) = .next (lone (b.atR a k) cs w) :=
  step_lone_go (by simp [stepG, stepG.exec, Frame.atR])
theorem stepR_scope {P : Program} {b : Frame} {a : Act} {k : List Item} {cs : List Frame} {w : World} {body : Code} : step P (lone (b.atR a (.code (.scope body) :: k)) cs w) = .next (lone (b.atR a (.code body :: .inScope body :: k)) cs w) :=
  step_lone_go (by simp [stepG, stepG.exec, Frame.atR])

theorem ScopeWp.of_wp {z : Option Nat} {P : Program} {body c : Code} {Q : Exit → Act → World → Prop} {a : Act} {w : World} (h : c.wpIn (Fr z) 0 P (scopeQ z P body Q) a w) : ScopeWp z P body c Q a w := by
  intro b k cs hro
  obtain ⟨e, a1, w1, hq, harr⟩ := h b (.inScope body :: k) cs hro trivial (fr_room _)
  cases e with
  | normal => exact ⟨.normal, a1, w1, hq, StepsIn.trans harr (.one (fr_fenced _) stepR_inScope)⟩
  | exit id =>
    have hx : exitTo id (.inScope body :: k) = exitTo id k := by simp [exitTo]
    exact ⟨.exit id, a1, w1, hq, fun k' hk => harr.1 k' (by rw [hx]; exact hk), fun h1 hk => harr.2 h1 (by rw [hx]; exact hk)⟩
  | goto l =>
    have hq : (match findLabel body l with | some rest => ScopeWp z P body rest Q a1 w1 | none => Q (.goto l) a1 w1) := hq
    cases hf : findLabel body l with
    | some rest =>
      rw [hf] at hq
      obtain ⟨e2, a2, w2, hq2, harr2⟩ := hq b k cs hro
      exact ⟨e2, a2, w2, hq2, .of_steps (harr.1 _ (by simp [gotoIn, hf])) harr2⟩
    | none =>
      rw [hf] at hq
      have hx : gotoIn l (.inScope body :: k) = gotoIn l k := by simp [gotoIn, hf]
      exact ⟨.goto l, a1, w1, hq, fun k' hk => harr.1 k' (by rw [hx]; exact hk), fun h1 hk => harr.2 h1 (by rw [hx]; exact hk)⟩
  | ret => exact ⟨.ret, a1, w1, hq, harr⟩
  | panic ch => exact ⟨.panic ch, a1, w1, hq, harr⟩
  | outgrown => exact ⟨.outgrown, a1, w1, hq, harr⟩

theorem ScopeWp.scope {z : Option Nat} {P : Program} {body : Code} {Q : Exit → Act → World → Prop} {a : Act} {w : World} (h : ScopeWp z P body body Q a w) : (Code.scope body).wpIn (Fr z) 0 P Q a w := by
  intro b k cs hro _ _
  obtain ⟨e, a', w', hq, harr⟩ := h b k cs hro
  exact ⟨e, a', w', hq, .of_steps (.one (fr_fenced _) stepR_scope) harr⟩

/-- the runs from a code's labels on -/
def FrOK (rd fl : Bool) (P : Program) (ρ : Nat → Int) (n : Nat) (code : Code) (fr : Nat → Option (Env → M XE)) : Prop :=
  ∀ l, match fr l with
    | some f => ∃ rest, findLabel code l = some rest ∧ CodeOK rd fl P ρ n rest f
    | none => findLabel code l = none

theorem CodeOK.seq {x y : Code} {f g : Env → M XE} (hx : CodeOK rd fl P ρ n x f) (hy : CodeOK rd fl P ρ n y g) : CodeOK rd fl P ρ n (.seq x y) (seqRun f g) := by
  intro c m m' w p q env r a hρ hm hp he h z hz Q hQ
  obtain ⟨r0, m1, p1, h1, h2⟩ := M.gives_bnd (show ((f env).bnd fun r => onXE r fun z e => (X.rec (g e) (fun _ => M.pure r) (M.pure r) (fun _ => M.pure r) z : M XE)).gives c.ρ m p r m' q from h)
  refine wpIn_seq (hx hρ hm hp he h1 z hz _ fun a1 w1 hp1 hA => ?_)
  obtain ⟨u, env1⟩ := r0
  cases u with
  | normal =>
    obtain ⟨c1, Ds, s1, he1, hd, hD, hf⟩ := hA
    have hr := s1.le.ρ
    exact hy (hr.trans hρ) s1.rel (by rw [hr]; exact hp1) he1 (by rw [hr]; exact h2) z hz Q fun a2 w2 hq hA2 => hQ a2 w2 (by rw [← hr]; exact hq) ((hA2.trans s1 hd hD hf).weak (by simp))
  | exit id =>
    obtain ⟨rfl, rfl, rfl⟩ := M.gives_pure (show (M.pure (⟨.exit id, env1⟩ : XE)).gives c.ρ m1 p1 r m' q from h2)
    exact hQ a1 w1 hp1 hA
  | ret =>
    obtain ⟨rfl, rfl, rfl⟩ := M.gives_pure (show (M.pure (⟨.ret, env1⟩ : XE)).gives c.ρ m1 p1 r m' q from h2)
    exact hQ a1 w1 hp1 hA
  | goto l =>
    obtain ⟨rfl, rfl, rfl⟩ := M.gives_pure (show (M.pure (⟨.goto l, env1⟩ : XE)).gives c.ρ m1 p1 r m' q from h2)
    exact hQ a1 w1 hp1 hA

theorem scopeX_ok {body : Code} {fr : Nat → Option (Env → M XE)} (hfr : FrOK rd fl P ρ n body fr) {z : Option Nat} (hz : rd = false → z = none) : ∀ (k : Nat) {c : Cx} {m m1 m' : Mem} {w w1 : World} {p1 q : Pc} {r0 r : XE} {a a1 : Act}, c.ρ = ρ → MemR c m w → PcR c.ρ p1 → AfterM fl c m w m1 n r0.env a a1 w1 → (scopeX fr k r0).gives c.ρ m1 p1 r m' q →
    ∀ (Q : Exit → Act → World → Prop), (∀ a' w', PcR c.ρ q → AfterM fl c m w m' n r.env a a' w' → Q (exitOf r.x) a' w') → scopeQ z P body Q (exitOf r0.x) a1 w1
  | 0, c, m, m1, m', w, w1, p1, q, r0, r, a, a1, hρ, hm, hp1, hA, h, Q, hQ => (M.gives_fail (s := "jumps") h).elim
  | k + 1, c, m, m1, m', w, w1, p1, q, r0, r, a, a1, hρ, hm, hp1, hA, h, Q, hQ => by
    obtain ⟨u, env1⟩ := r0
    have plain : (M.pure (⟨u, env1⟩ : XE)).gives c.ρ m1 p1 r m' q → Q (exitOf u) a1 w1 := fun h => by
      obtain ⟨rfl, rfl, rfl⟩ := M.gives_pure h
      exact hQ a1 w1 hp1 hA
    cases u with
    | normal => exact plain h
    | exit id => exact plain h
    | ret => exact plain h
    | goto l =>
      have h : (Option.rec (M.pure ⟨.goto l, env1⟩) (fun f => (f env1).bnd (scopeX fr k)) (fr l) : M XE).gives c.ρ m1 p1 r m' q := h
      have hf := hfr l
      show (match findLabel body l with | some rest => ScopeWp z P body rest Q a1 w1 | none => Q (.goto l) a1 w1)
      cases he : fr l with
      | none =>
        rw [he] at h hf
        have hf : findLabel body l = none := hf
        rw [hf]
        exact plain h
      | some f =>
        rw [he] at h hf
        obtain ⟨rest, hl, hok⟩ := hf
        rw [hl]
        obtain ⟨r1, m2, p2, h1, h2⟩ := M.gives_bnd (show ((f env1).bnd (scopeX fr k)).gives c.ρ m1 p1 r m' q from h)
        obtain ⟨c1, Ds, s1, he1, hd, hD, hfl⟩ := hA
        have hr := s1.le.ρ
        refine ScopeWp.of_wp (hok (hr.trans hρ) s1.rel (by rw [hr]; exact hp1) he1 (by rw [hr]; exact h1) z hz _ fun a2 w2 hq hA2 => ?_)
        exact scopeX_ok hfr hz k hρ hm (by rw [← hr]; exact hq) ((hA2.trans s1 hd hD hfl).weak (by simp)) h2 Q hQ

theorem FrOK.none {code : Code} (h : ∀ l, findLabel code l = .none) : FrOK rd fl P ρ n code (fun _ => .none) := fun l => h l

/-! ### ranges over functions -/

theorem M.gives_sel {α : Type} {c : Bool} {s : String} {x : M α} {ρ : Nat → Int} {m m' : Mem} {p q : Pc} {v : α} (h : (selB c (M.fail s) x).gives ρ m p v m' q) : c = false ∧ x.gives ρ m p v m' q := by
  cases c with
  | true => exact (M.gives_fail (s := s) h).elim
  | false => exact ⟨rfl, h⟩

theorem ext_no_yld {fa fb : List V} {i k : Nat} {ρ : Nat → Int} {m m' : Mem} {p q : Pc} {v : V} : ¬ ((extR k (catV fa (.yld i :: fb))).thn M.pure).gives ρ m p v m' q := by
  intro h
  obtain ⟨u, p1, h1, _⟩ := R.gives_thn h
  unfold extR on2x at h1
  rw [catV_eq] at h1
  cases fa with
  | nil =>
    cases fb with
    | nil => exact R.gives_fail (s := "extern") h1
    | cons x fb =>
      cases fb with
      | nil => exact R.gives_fail (s := "extern") h1
      | cons _ _ => exact R.gives_fail (s := "extern") h1
  | cons y fa =>
    cases fa with
    | nil =>
      cases fb with
      | nil =>
        obtain ⟨l, _, h2⟩ := onStr_gives (show (onStr y (fun l => onInt (V.yld i) (fun kk e => selB (Nat.beq (kindNo kk) 4) (Nat.rec ((cntR e l 0).bnd lenN) (fun _ _ => idxR e l 0) k) (R.fail "extern")) (R.fail "extern")) (R.fail "extern")).gives ρ m p u p1 from h1)
        exact R.gives_fail (s := "extern") h2
      | cons _ _ => exact R.gives_fail (s := "extern") h1
    | cons z fa =>
      cases fa with
      | nil => exact R.gives_fail (s := "extern") h1
      | cons _ _ => exact R.gives_fail (s := "extern") h1

theorem onLp_gives {α : Type} {b : Option Blk} {f : LoopState → Option Code → List Tmp → Code → Code → Nat → Env → T α} {s : String} {r : α} {ρ : Nat → Int}
    (h : (onLp b f (.fail s)).out ρ = some r) : ∃ st pe ps a c n env, b = some (.lp st pe ps a c n env) ∧ (f st pe ps a c n env).out ρ = some r := by
  cases b with
  | none => simp [onLp, T.out] at h
  | some b =>
    cases b with
    | lp st pe ps a c n env => exact ⟨st, pe, ps, a, c, n, env, rfl, h⟩
    | _ => simp [onLp, T.out] at h

theorem setPs_ok {c : Cx} {n : Nat} : ∀ {ps : List Tmp} {l : List V} {xs : List Value} {env : Env} {tmps : Array Value}, tmps.size = n → allL (fun t => Nat.blt t n) ps = true → ps.length = l.length → VRs c l xs → (∀ j, VR c (env j) (tmps.getD j undef)) →
    ((ps.zip xs).foldl (fun t (p, v) => t.setIfInBounds p v) tmps).size = n ∧ ∀ j, VR c (setPs ps l env j) (((ps.zip xs).foldl (fun t (p, v) => t.setIfInBounds p v) tmps).getD j undef)
  | [], l, xs, env, tmps, hs, _, _, _, he => ⟨hs, he⟩
  | p :: ps, [], xs, env, tmps, hs, _, hl, _, he => nomatch hl
  | p :: ps, v :: l, xs, env, tmps, hs, hb, hl, hx, he => by
    obtain ⟨x, ys, rfl, h1, h2⟩ := VRs.cons_iff.1 hx
    have hb : (Bool.rec false (allL (fun t => Nat.blt t n) ps) (Nat.blt p n) : Bool) = true := hb
    cases hp : Nat.blt p n with
    | false => rw [hp] at hb; exact absurd (show false = true from hb) (by simp)
    | true =>
      rw [hp] at hb
      rw [blt_iff] at hp
      refine setPs_ok (ps := ps) (l := l) (xs := ys) (env := env.put p v) (tmps := tmps.setIfInBounds p x) (by simpa using hs) hb (by simpa using hl) h2 fun j => ?_
      show VR c (Bool.rec (env j) v (Nat.beq j p) : V) _
      cases hj : Nat.beq j p with
      | true =>
        rw [beq_iff] at hj; subst hj
        have : j < tmps.size := by omega
        simpa [Array.getD, this] using h1
      | false =>
        rw [beq_false] at hj
        have e : (tmps.setIfInBounds p x).getD j undef = tmps.getD j undef := by
          simp only [Array.getD, Array.size_setIfInBounds]
          split
          · rename_i hlt
            rw [Array.getInternal_eq_getElem, Array.getInternal_eq_getElem, Array.getElem_setIfInBounds_ne _ (fun e => hj e.symm)]
          · rfl
        rw [e]; exact he j

/-- a block that nothing names -/
theorem Step.garbage {c : Cx} {m : Mem} {w : World} (hm : MemR c m w) (o : Obj) : Step c m w c m (w.alloc o) := by
  have hold : ∀ i b, m.tr.get i = some b → b.live c → (w.alloc o).heap[(c.β i).1]? = w.heap[(c.β i).1]? := fun i b hb hl => heap_push_old w o ((hm.blk i b hb).live hl |>.2.lt hl)
  refine ⟨⟨hm.nb, hm.nt, fun i b hb => (hm.blk i b hb).on (Cx.le.refl c) (hold i b hb), hm.inj, hm.tok⟩, Cx.le.refl c, rfl, rfl, rfl, ?_, fun b hb _ => heap_push_old w o hb, fun _ h => .inl h, fun _ h => .inl h⟩
  show w.heap.size ≤ (w.heap.push o).size
  simp

/-- the record of a loop, in another state -/
theorem lp_put {c : Cx} {m : Mem} {w : World} (hm : MemR c m w) {i : Nat} {st st' : LoopState} {pe pe' : Option Code} {ps : List Tmp} {a b : Code} {n : Nat} {env : Env} (hb : m.tr.get i = some (.lp st pe ps a b n env)) :
    c.has i ∧ ∃ r : Loop, w.heap[(c.β i).1]? = some (.loop r) ∧ r.state = st ∧ r.pending = pe ∧ Step c m w c ⟨m.tr.set i (.lp st' pe' ps a b n env), m.nb, m.tok, m.nt⟩ (w.putObj (c.β i).1 (.loop { r with state := st', pending := pe' })) := by
  obtain ⟨hi, hB⟩ := (hm.blk i _ hb).live (show (Blk.lp st pe ps a b n env).live c from trivial)
  have hB' := hB
  obtain ⟨fn, tmps, df, h1, h2, h3, h4⟩ := hB
  have hlt := (Array.getElem?_eq_some_iff.1 h1).1
  exact ⟨hi, _, h1, rfl, rfl, Step.put hm hb rfl ⟨fn, tmps, df, putObj_same hlt, h2, h3, h4⟩ (by simp) (fun j hj => putObj_other hj) rfl rfl rfl⟩

theorem lpSet_ok {c : Cx} {m m' : Mem} {w : World} {p q : Pc} {u : Unit} {ok : LoopState → Bool} {st' : LoopState} {pe' : Option Code} {i : Nat} (hm : MemR c m w) (h : (lpSet ok st' pe' i).gives c.ρ m p u m' q) :
    q = p ∧ c.has i ∧ ∃ r : Loop, w.heap[(c.β i).1]? = some (.loop r) ∧ ok r.state = true ∧ Step c m w c m' (w.putObj (c.β i).1 (.loop { r with state := st', pending := pe' })) ∧
      ∃ st pe ps a b n env, m.tr.get i = some (.lp st pe ps a b n env) ∧ m' = ⟨m.tr.set i (.lp st' pe' ps a b n env), m.nb, m.tok, m.nt⟩ := by
  obtain ⟨st, pe, ps, a, b, n, env, hb, h⟩ := onLp_gives (show (onLp (m.tr.get i) (fun st _ ps a b n env => selB (ok st) (putBlk i (.lp st' pe' ps a b n env)) (M.fail "a loops state") m p) (.fail "no loop")).out c.ρ = some ⟨u, m', q⟩ from h)
  obtain ⟨h1, h2⟩ := M.gives_if (show (selB (ok st) (putBlk i (.lp st' pe' ps a b n env)) (M.fail "a loops state")).gives c.ρ m p u m' q from h)
  obtain ⟨rfl, rfl⟩ := putBlk_gives h2
  obtain ⟨hi, r, g1, g2, _, g4⟩ := lp_put (st' := st') (pe' := pe') hm hb
  exact ⟨rfl, hi, r, g1, by rw [g2]; exact h1, g4, st, pe, ps, a, b, n, env, hb, rfl⟩

/-- a range over a function -/
theorem range_ok {cf : FuncId → List V → M V} (hcf : CallsOK P ρ cf) {g : Operand} {ps : Array Tmp} {assign body : Code} (hR : (codeRegs assign && codeRegs body) = true) {c : Cx} {m m' : Mem} {w : World} {p q : Pc} {env : Env} {r : XE} {a : Act} (hρ : c.ρ = ρ) (hm : MemR c m w) (hp : PcR c.ρ p) (he : EnvR c n env a)
    (h : (rangeM P cf n g ps.toList assign body env).gives c.ρ m p r m' q) (Q : Exit → Act → World → Prop) (hQ : ∀ a' w', PcR c.ρ q → AfterM false c m w m' n r.env a a' w' → Q (exitOf r.x) a' w') :
    (Code.rangeFunc g ps assign body).wpIn (Fr none) 0 P Q a w := by
  have hg := opd_ok he g
  unfold rangeM at h
  cases hgv : opd g env <;> rw [hgv] at h hg <;> try exact (M.gives_fail (s := "range over what") h).elim
  case func fn fa fb =>
    obtain ⟨as, bs, hx, v1, v2⟩ := VR.func.1 hg
    cases fn <;> try exact (M.gives_fail (s := "range over what") h).elim
    case func gid =>
      obtain ⟨i, m1, p1, h1, h2⟩ := M.gives_bnd (show ((newBlk (.lp .ready none ps.toList assign body n env)).bnd fun i => (cfx P cf gid (catV fa (.yld i :: fb))).bnd fun _ => endLp i env).gives c.ρ m p r m' q from h)
      obtain ⟨rfl, rfl, rfl⟩ := newBlk_gives h1
      obtain ⟨v, m2, p2, h3, h4⟩ := M.gives_bnd h2
      -- the record, and the block for the deferred calls
      have sg := Step.garbage hm (.deferred (some []))
      have hsz : (w.alloc (.deferred (some []))).heap.size = w.heap.size + 1 := World.size_alloc _ _
      refine wpIn_rangeFunc fun fid _ => ?_
      obtain ⟨rec, hrec⟩ : ∃ rec : Loop, rec = { state := .ready, pending := none, fn := fid, tmps := a.tmps, params := ps, assign := assign, body := body, defers := w.heap.size } := ⟨_, rfl⟩
      obtain ⟨w1, hw1⟩ : ∃ w1, w1 = (w.alloc (.deferred (some []))).alloc (.loop rec) := ⟨_, rfl⟩
      have sn : Step c m (w.alloc (.deferred (some []))) (c.addB (w.alloc (.deferred (some [])))) ⟨m.tr.set m.nb (.lp .ready none ps.toList assign body n env), Nat.succ m.nb, m.tok, m.nt⟩ w1 := by
        rw [hw1]
        refine Step.new sg.rel ⟨fid, a.tmps, w.heap.size, ?_, he.size, fun j => (he.slot j).mono (Cx.le_addB _ _), hR⟩
        rw [hrec, Array.toArray_toList]
        exact heap_push_new _ _
      have hβ : (c.addB (w.alloc (.deferred (some [])))).β m.nb = (w.heap.size + 1, 0) := by
        show (if m.nb = c.nb then ((w.alloc (.deferred (some []))).heap.size, 0) else c.β m.nb) = _
        rw [if_pos hm.nb.symm, hsz]
      have hhas : (c.addB (w.alloc (.deferred (some [])))).has m.nb := .inr hm.nb.symm
      have s1 := sg.trans sn
      have hr1 : (c.addB (w.alloc (.deferred (some [])))).ρ = c.ρ := rfl
      have hy : VR (c.addB (w.alloc (.deferred (some [])))) (.yld m.nb) (.func (.yield (w.heap.size + 1)) #[] #[]) := VR.yld.2 ⟨hhas, by rw [hβ]⟩
      have hargs : VRs (c.addB (w.alloc (.deferred (some [])))) (catV fa (.yld m.nb :: fb)) (as ++ (#[Value.func (.yield (w.heap.size + 1)) #[] #[]] ++ bs)).toList :=
        catV_arr (v1.mono s1.le) (show VRs _ (.yld m.nb :: fb) (#[Value.func (.yield (w.heap.size + 1)) #[] #[]] ++ bs).toList by rw [Array.toList_append]; exact VRs.cons hy (v2.mono s1.le))
      cases hx0 : extNo P gid with
      | succ k =>
        -- functions that the model answers itself take no function
        have h3 : (Nat.rec (cfq cf gid (catV fa (.yld m.nb :: fb))) (fun n _ => (extR n (catV fa (.yld m.nb :: fb))).thn M.pure) (extNo P gid) : M V).gives c.ρ _ _ v m2 p2 := h3
        rw [hx0] at h3
        exact absurd h3 ext_no_yld
      | zero =>
        have h3 : (Nat.rec (cfq cf gid (catV fa (.yld m.nb :: fb))) (fun n _ => (extR n (catV fa (.yld m.nb :: fb))).thn M.pure) (extNo P gid) : M V).gives c.ρ _ _ v m2 p2 := h3
        rw [hx0] at h3
        obtain ⟨hne, h3⟩ := cfq_gives h3
        have hcall := hcf.1 gid _ _ _ m2 w1 _ p2 v _ hne (hr1.trans hρ) sn.rel hp (he.glob.mono s1.le) hargs h3
        have hrun := run_callFunc (w := w1) hcall.1 (as ++ (#[Value.func (.yield (w.heap.size + 1)) #[] #[]] ++ bs))
        refine ⟨w.heap.size + 1, [mark w.heap.size], w1, { target := .fn (.func gid) bs, args := as ++ #[.func (.yield (w.heap.size + 1)) #[] #[]] }, w1, gid, as ++ (#[.func (.yield (w.heap.size + 1)) #[] #[]] ++ bs), w1, ?_, ?_, fun _ _ => trivial, ?_, noDepth, ?_⟩
        · rw [hw1, hrec]; exact run_enterLoop_outer _ _ _ _ _
        · simp only [resolve, hx]
          simp [Deferred.ofValue]
          rfl
        · simpa [invoke] using hrun
        · refine callsIn_Fr.2 (Calls.mono hcall.2 fun e w2 hE => ?_)
          obtain ⟨c2, z, rfl, s2, hz, hq2⟩ := hE
          have hr2 := s2.le.ρ
          obtain ⟨st, pe, ps', a', b', n', e', hb, h5⟩ := onLp_gives (show (onLp (m2.tr.get m.nb) (fun st pe ps a b n e => selB (isBsy st) (M.fail "a loops state") ((putBlk m.nb (.lp .exhausted pe ps a b n e)).bnd fun _ => jumpX env pe) m2 p2) (.fail "no loop")).out c.ρ = some ⟨r, m', q⟩ from h4)
          obtain ⟨hst, h5⟩ := M.gives_sel (show (selB (isBsy st) (M.fail "a loops state") ((putBlk m.nb (.lp .exhausted pe ps' a' b' n' e')).bnd fun _ => jumpX env pe)).gives c.ρ m2 p2 r m' q from h5)
          obtain ⟨_, m3, p3, h6, h7⟩ := M.gives_bnd h5
          obtain ⟨rfl, rfl⟩ := putBlk_gives h6
          obtain ⟨hi2, rl, g1, g2, g3, g4⟩ := lp_put (st' := .exhausted) (pe' := pe) s2.rel hb
          have hβ2 : (c2.β m.nb).1 = w.heap.size + 1 := by rw [s2.le.β m.nb hhas, hβ]
          rw [hβ2] at g1 g4
          have hnb : rl.state ≠ .busy := fun e => by
            rw [g2] at e
            subst e
            exact absurd (show true = false from hst) (by simp)
          refine ⟨pe, _, by rw [← g3]; exact run_endLoop g1 hnb, ?_⟩
          have s3 := (s1.trans s2).trans g4
          have hd0 : w1.heap[w.heap.size]? = some (.deferred (some [])) := by
            rw [hw1, heap_push_old _ _ (by rw [hsz]; omega)]
            exact heap_push_new _ _
          have hD : MarksR w.heap.size (w2.putObj (w.heap.size + 1) (.loop { rl with state := .exhausted, pending := pe })) [w.heap.size] :=
            ⟨by simp, fun D h => by
              simp only [List.mem_singleton] at h
              subst h
              exact ⟨Nat.le_refl _, g4.deferred s2.rel (s2.deferred sn.rel hd0)⟩⟩
          have hw3 : w2.putObj (w.heap.size + 1) (.loop { rl with state := .exhausted }) = w2.putObj (w.heap.size + 1) (.loop { rl with state := .exhausted, pending := pe }) := by rw [← g3]
          rw [hw3]
          have fin : ∀ {x : X}, r = ⟨x, env⟩ → m' = ⟨m2.tr.set m.nb (.lp .exhausted pe ps' a' b' n' e'), m2.nb, m2.tok, m2.nt⟩ → q = p3 → Q (exitOf x) { a with defers := [mark w.heap.size] ++ a.defers } (w2.putObj (w.heap.size + 1) (.loop { rl with state := .exhausted, pending := pe })) := by
            rintro x rfl rfl rfl
            exact hQ _ _ hq2 ⟨c2, [w.heap.size], s3, ⟨he.size, fun j => (he.slot j).mono s3.le, he.glob.mono s3.le⟩, rfl, hD, fun e => nomatch e⟩
          cases pe with
          | none =>
            obtain ⟨rfl, rfl, rfl⟩ := M.gives_pure (show (M.pure (⟨.normal, env⟩ : XE)).gives c.ρ _ _ r m' q from h7)
            exact fin rfl rfl rfl
          | some j =>
            cases j with
            | ret =>
              obtain ⟨rfl, rfl, rfl⟩ := M.gives_pure (show (M.pure (⟨.ret, env⟩ : XE)).gives c.ρ _ _ r m' q from h7)
              exact wpIn_ret (fin rfl rfl rfl)
            | exit id =>
              obtain ⟨rfl, rfl, rfl⟩ := M.gives_pure (show (M.pure (⟨.exit id, env⟩ : XE)).gives c.ρ _ _ r m' q from h7)
              exact wpIn_exit (fin rfl rfl rfl)
            | goto l =>
              obtain ⟨rfl, rfl, rfl⟩ := M.gives_pure (show (M.pure (⟨.goto l, env⟩ : XE)).gives c.ρ _ _ r m' q from h7)
              exact wpIn_goto (fin rfl rfl rfl)
            | _ => exact (M.gives_fail (s := "a jump") h7).elim

theorem evC_ok (hM : P.follows .mixedOrders = true) {cf : FuncId → List V → M V} (hcf : CallsOK P ρ cf) (it : Nat) : ∀ (code : Code), codeRegs code = true → (fl = true → noRF code = true) → CodeOK rd fl P ρ n code (evC code rd P cf it n).run ∧ FrOK rd fl P ρ n code (evC code rd P cf it n).fr
  | .skip, _, _ => by
    refine ⟨?_, FrOK.none fun _ => rfl⟩
    intro c m m' w p q env r a hρ hm hp he h z hz Q hQ
    obtain ⟨rfl, rfl, rfl⟩ := M.gives_pure (show (M.pure (⟨.normal, env⟩ : XE)).gives c.ρ m p r m' q from h)
    exact wpIn_skip (hQ a w hp (After.M ⟨c, Step.refl hm, he, rfl⟩))
  | .label k, _, _ => by
    refine ⟨?_, fun l => ?_⟩
    · intro c m m' w p q env r a hρ hm hp he h z hz Q hQ
      obtain ⟨rfl, rfl, rfl⟩ := M.gives_pure (show (M.pure (⟨.normal, env⟩ : XE)).gives c.ρ m p r m' q from h)
      exact wpIn_label (hQ a w hp (After.M ⟨c, Step.refl hm, he, rfl⟩))
    · show match selB (Nat.beq k l) (some fun env => M.pure (⟨.normal, env⟩ : XE)) Option.none with | some f => _ | Option.none => _
      cases hb : Nat.beq k l with
      | true =>
        rw [beq_iff] at hb
        subst hb
        refine ⟨.skip, by simp [findLabel], ?_⟩
        intro c m m' w p q env r a hρ hm hp he h z hz Q hQ
        obtain ⟨rfl, rfl, rfl⟩ := M.gives_pure (show (M.pure (⟨.normal, env⟩ : XE)).gives c.ρ m p r m' q from h)
        exact wpIn_skip (hQ a w hp (After.M ⟨c, Step.refl hm, he, rfl⟩))
      | false =>
        rw [beq_false] at hb
        show findLabel (.label k) l = Option.none
        simp [findLabel, hb]
  | .exit id, _, _ => by
    refine ⟨?_, FrOK.none fun _ => rfl⟩
    intro c m m' w p q env r a hρ hm hp he h z hz Q hQ
    obtain ⟨rfl, rfl, rfl⟩ := M.gives_pure (show (M.pure (⟨.exit id, env⟩ : XE)).gives c.ρ m p r m' q from h)
    exact wpIn_exit (hQ a w hp (After.M ⟨c, Step.refl hm, he, rfl⟩))
  | .goto l, _, _ => by
    refine ⟨?_, FrOK.none fun _ => rfl⟩
    intro c m m' w p q env r a hρ hm hp he h z hz Q hQ
    obtain ⟨rfl, rfl, rfl⟩ := M.gives_pure (show (M.pure (⟨.goto l, env⟩ : XE)).gives c.ρ m p r m' q from h)
    exact wpIn_goto (hQ a w hp (After.M ⟨c, Step.refl hm, he, rfl⟩))
  | .ret, _, _ => by
    refine ⟨?_, FrOK.none fun _ => rfl⟩
    intro c m m' w p q env r a hρ hm hp he h z hz Q hQ
    obtain ⟨rfl, rfl, rfl⟩ := M.gives_pure (show (M.pure (⟨.ret, env⟩ : XE)).gives c.ρ m p r m' q from h)
    exact wpIn_ret (hQ a w hp (After.M ⟨c, Step.refl hm, he, rfl⟩))
  | .seq x y, hR, hF => by
    have hF := fun e => Bool.and_eq_true_iff.1 (show (noRF x && noRF y) = true from hF e)
    obtain ⟨hR1, hR2⟩ := Bool.and_eq_true_iff.1 (show (codeRegs x && codeRegs y) = true from hR)
    obtain ⟨hx, fx⟩ := evC_ok hM hcf it x hR1 (fun e => (hF e).1)
    obtain ⟨hy, fy⟩ := evC_ok hM hcf it y hR2 (fun e => (hF e).2)
    refine ⟨hx.seq hy, fun l => ?_⟩
    have gx := fx l
    have gy := fy l
    show match (Option.rec ((evC y rd P cf it n).fr l) (fun f => some (seqRun f (evC y rd P cf it n).run)) ((evC x rd P cf it n).fr l) : Option (Env → M XE)) with | some f => _ | Option.none => _
    cases hf : (evC x rd P cf it n).fr l with
    | some f =>
      rw [hf] at gx
      obtain ⟨rest, h1, h2⟩ := gx
      exact ⟨.seq rest y, by simp [findLabel, h1], h2.seq hy⟩
    | none =>
      rw [hf] at gx
      have gx : findLabel x l = Option.none := gx
      show match (evC y rd P cf it n).fr l with | some f => _ | Option.none => _
      cases hg : (evC y rd P cf it n).fr l with
      | some f =>
        rw [hg] at gy
        obtain ⟨rest, h1, h2⟩ := gy
        exact ⟨rest, by simp [findLabel, gx, h1], h2⟩
      | none =>
        rw [hg] at gy
        have gy : findLabel y l = Option.none := gy
        show findLabel (.seq x y) l = Option.none
        simp [findLabel, gx, gy]
  | .cond k x y, hR, hF => by
    have hF := fun e => Bool.and_eq_true_iff.1 (show (noRF x && noRF y) = true from hF e)
    obtain ⟨hR1, hR2⟩ := Bool.and_eq_true_iff.1 (show (codeRegs x && codeRegs y) = true from hR)
    have hx := (evC_ok hM hcf it x hR1 (fun e => (hF e).1)).1
    have hy := (evC_ok hM hcf it y hR2 (fun e => (hF e).2)).1
    refine ⟨?_, FrOK.none fun _ => rfl⟩
    intro c m m' w p q env r a hρ hm hp he h z hz Q hQ
    obtain ⟨b, p1, h1, h2⟩ := R.gives_thn (show ((condV (opd k env)).thn fun b => (Bool.rec ((evC y rd P cf it n).run env) ((evC x rd P cf it n).run env) b : M XE)).gives c.ρ m p r m' q from h)
    obtain ⟨h3, h4⟩ := condV_gives hp (opd_ok he k) h1
    cases b with
    | false => exact wpIn_cond_false h4 (hy hρ hm h3 he h2 z hz Q hQ)
    | true => exact wpIn_cond_true h4 (hx hρ hm h3 he h2 z hz Q hQ)
  | .block id x, hR, hF => by
    have hx := (evC_ok hM hcf it x hR hF).1
    refine ⟨?_, FrOK.none fun _ => rfl⟩
    intro c m m' w p q env r a hρ hm hp he h z hz Q hQ
    obtain ⟨r0, m1, p1, h1, h2⟩ := M.gives_bnd (show (((evC x rd P cf it n).run env).bnd (blockX id)).gives c.ρ m p r m' q from h)
    refine wpIn_block (hx hρ hm hp he h1 z hz _ fun a1 w1 hp1 hA => ?_)
    obtain ⟨u, env1⟩ := r0
    cases u with
    | normal =>
      obtain ⟨rfl, rfl, rfl⟩ := M.gives_pure (show (M.pure (⟨.normal, env1⟩ : XE)).gives c.ρ m1 p1 r m' q from h2)
      exact hQ a1 w1 hp1 hA
    | ret =>
      obtain ⟨rfl, rfl, rfl⟩ := M.gives_pure (show (M.pure (⟨.ret, env1⟩ : XE)).gives c.ρ m1 p1 r m' q from h2)
      exact hQ a1 w1 hp1 hA
    | goto l =>
      obtain ⟨rfl, rfl, rfl⟩ := M.gives_pure (show (M.pure (⟨.goto l, env1⟩ : XE)).gives c.ρ m1 p1 r m' q from h2)
      exact hQ a1 w1 hp1 hA
    | exit i =>
      obtain ⟨rfl, rfl, rfl⟩ := M.gives_pure (show (M.pure (⟨selB (Nat.beq i id) .normal (.exit i), env1⟩ : XE)).gives c.ρ m1 p1 r m' q from h2)
      have hq := hQ a1 w1 hp1 hA
      show Exit.inBlock id Q (.exit i) a1 w1
      cases hb : Nat.beq i id with
      | true =>
        rw [hb] at hq
        rw [beq_iff] at hb; subst hb
        simp only [Exit.inBlock, if_true]; exact hq
      | false =>
        rw [hb] at hq
        rw [beq_false] at hb
        simp only [Exit.inBlock, if_neg hb]; exact hq
  | .loop x, hR, hF => by
    have hx := (evC_ok hM hcf it x hR hF).1
    refine ⟨?_, FrOK.none fun _ => rfl⟩
    intro c m m' w p q env r a hρ hm hp he h z hz Q hQ
    obtain ⟨r0, m1, p1, h1, h2⟩ := M.gives_bnd (show ((iter (evC x rd P cf it n).run it env).bnd loopX).gives c.ρ m p r m' q from h)
    refine RndWp.loop (iter_ok hx it hρ hm hp he h1 z hz Q fun a1 w1 hp1 hA => ?_)
    obtain ⟨u, env1⟩ := r0
    cases u with
    | none => exact (M.gives_fail (s := "loop more rounds") h2).elim
    | some u =>
      obtain ⟨rfl, rfl, rfl⟩ := M.gives_pure (show (M.pure (⟨u, env1⟩ : XE)).gives c.ρ m1 p1 r m' q from h2)
      exact hQ a1 w1 hp1 hA
  | .scope x, hR, hF => by
    obtain ⟨hx, fx⟩ := evC_ok hM hcf it x hR hF
    refine ⟨?_, FrOK.none fun _ => rfl⟩
    intro c m m' w p q env r a hρ hm hp he h z hz Q hQ
    obtain ⟨r0, m1, p1, h1, h2⟩ := M.gives_bnd (show (((evC x rd P cf it n).run env).bnd (scopeX (evC x rd P cf it n).fr 6)).gives c.ρ m p r m' q from h)
    exact ScopeWp.scope (ScopeWp.of_wp (hx hρ hm hp he h1 z hz _ fun a1 w1 hp1 hA => scopeX_ok fx hz 6 hρ hm hp1 hA h2 Q hQ))
  | .region id ops d, hR, _ => by
    refine ⟨?_, FrOK.none fun _ => rfl⟩
    intro c m m' w p q env r a hρ hm hp he h z hz Q hQ
    have h : (selB d (evDrawn ops P cf n env) (evReg ops P cf n env)).gives c.ρ m p r m' q := h
    cases d with
    | true =>
      obtain ⟨env1, m1, p1, h1, h2⟩ := M.gives_bnd (show ((evDrP ops P cf n env).bnd fun env => M.pure (⟨.normal, env⟩ : XE)).gives c.ρ m p r m' q from h)
      obtain ⟨rfl, rfl, rfl⟩ := M.gives_pure h2
      have hR : regOK ops = true := by simpa [codeRegs] using hR
      refine drawnP_ok (regF_of hR) hM hcf hρ hm (by rw [← hρ]; exact hp) he (by rw [← hρ]; exact h1) z Q fun a' w' hq hA => hQ a' w' (by rw [hρ]; exact hq) hA.M
    | false =>
      obtain ⟨env1, m1, p1, h1, h2⟩ := M.gives_bnd (show ((evSeq ops.toList ops P cf n env).bnd fun env => M.pure (⟨.normal, env⟩ : XE)).gives c.ρ m p r m' q from h)
      obtain ⟨rfl, rfl, rfl⟩ := M.gives_pure h2
      exact wpIn_region_list (evSeq_ok hcf hρ hm hp he h1 z Q fun a' w' hq hA => hQ a' w' hq hA.M)
  | .rangeFunc g ps assign body, hR, hF => by
    refine ⟨?_, FrOK.none fun _ => rfl⟩
    intro c m m' w p q env r a hρ hm hp he h z hz Q hQ
    obtain ⟨hrd, h⟩ := M.gives_sel (show (selB rd (M.fail "a range over a function in a round") (rangeM P cf n g ps.toList assign body env)).gives c.ρ m p r m' q from h)
    obtain rfl := hz hrd
    exact range_ok hcf hR hρ hm hp he h Q fun a' w' hq hA => hQ a' w' hq (hA.weak fun e => hF e)
  | .refuse _, _, _ => ⟨by intro c m m' w p q env r a hρ hm hp he h; exact (M.gives_fail (s := "code") h).elim, FrOK.none fun _ => rfl⟩

theorem evCode_okM (hM : P.follows .mixedOrders = true) {cf : FuncId → List V → M V} (hcf : CallsOK P ρ cf) (it : Nat) (code : Code) (hR : codeRegs code = true) : CodeOK false false P ρ n code (evCode code P cf it n) := (evC_ok (rd := false) (fl := false) hM hcf it code hR (fun e => nomatch e)).1
theorem evRd_ok (hM : P.follows .mixedOrders = true) {cf : FuncId → List V → M V} (hcf : CallsOK P ρ cf) (it : Nat) (code : Code) (hR : codeRegs code = true) : CodeOK true false P ρ n code (evRd code P cf it n) := (evC_ok (rd := true) (fl := false) hM hcf it code hR (fun e => nomatch e)).1

/-- at a round's end -/
theorem endRd_ok {c : Cx} {m m' : Mem} {w : World} {p q : Pc} {v : V} {r : XE} {i : Nat} (hm : MemR c m w) (h : (endRd i r).gives c.ρ m p v m' q) :
    ∀ (R : Ending → World → Prop), (∀ w' z, q = p → Step c m w c m' w' → VR c v z → R (.returned z) w') → ∀ a', roundPost P (c.β i).1 R (exitOf r.x) a' w := by
  intro R hR a'
  obtain ⟨x, env⟩ := r
  have key : ∀ (st : LoopState) (j : Option Code) (bb : Bool), j.isNone = bb → st = (if j.isNone then .ready else .done) → ((lpSet isBsy st j i).bnd fun _ => M.pure (.bool (.lit bb))).gives c.ρ m p v m' q → ∃ z w', (Instr.endRound (c.β i).1 j).run P w = .ok z w' ∧ R (.returned z) w' := by
    intro st j bb hj hs h
    obtain ⟨_, m1, p1, h1, h2⟩ := M.gives_bnd h
    obtain ⟨rfl, rfl, rfl⟩ := M.gives_pure h2
    obtain ⟨rfl, hi, rl, g1, g2, g3, _⟩ := lpSet_ok hm h1
    refine ⟨_, _, run_endRound j g1, hR _ _ rfl (by rw [← hs]; exact g3) ?_⟩
    rw [hj]; exact VR.lit
  cases x with
  | normal => exact key .ready none true rfl rfl h
  | ret => exact key .done (some .ret) false rfl rfl h
  | exit id => exact key .done (some (.exit id)) false rfl rfl h
  | goto l => exact key .done (some (.goto l)) false rfl rfl h

theorem isRdy_ok {st : LoopState} (h : isRdy st = true) : st = .ready := by
  cases st <;> first | rfl | exact absurd (show false = true from h) (by simp)

theorem lpBsy_ok {c : Cx} {m m' : Mem} {w : World} {p q : Pc} {u : Unit} {i : Nat} (hm : MemR c m w) (h : (lpBsy i).gives c.ρ m p u m' q) :
    q = p ∧ c.has i ∧ ∃ r : Loop, w.heap[(c.β i).1]? = some (.loop r) ∧ r.state = .ready ∧ Step c m w c m' (w.putObj (c.β i).1 (.loop { r with state := .busy })) := by
  obtain ⟨st, pe, ps, a, b, n, env, hb, h⟩ := onLp_gives (show (onLp (m.tr.get i) (fun st pe ps a b n env => selB (isRdy st) (putBlk i (.lp .busy pe ps a b n env)) (M.fail "a loops state") m p) (.fail "no loop")).out c.ρ = some ⟨u, m', q⟩ from h)
  obtain ⟨h1, h2⟩ := M.gives_if (show (selB (isRdy st) (putBlk i (.lp .busy pe ps a b n env)) (M.fail "a loops state")).gives c.ρ m p u m' q from h)
  obtain ⟨rfl, rfl⟩ := putBlk_gives h2
  obtain ⟨hi, r, g1, g2, g3, g4⟩ := lp_put (st' := .busy) (pe' := pe) hm hb
  refine ⟨rfl, hi, r, g1, by rw [g2]; exact isRdy_ok h1, ?_⟩
  have e : ({ r with state := .busy, pending := pe } : Loop) = { r with state := .busy } := by rw [← g3]
  rw [e] at g4; exact g4

/-- a round of a loop -/
theorem roundM_ok (hM : P.follows .mixedOrders = true) {cf : FuncId → List V → M V} (hcf : CallsOK P ρ cf) (it : Nat) {i : Nat} {l : List V} {c : Cx} {m m' : Mem} {w : World} {p q : Pc} {v : V} {args : Array Value} (hρ : c.ρ = ρ) (hm : MemR c m w) (hp : PcR c.ρ p) (hg : GlobR c) (hl : VRs c l args.toList)
    (h : (roundM P cf it i l).gives c.ρ m p v m' q) : YldOK P i args c m w m' v q := by
  obtain ⟨st, pe, ps, assign, body, n, env, hb, h⟩ := onLp_gives (show (onLp (m.tr.get i) (fun st _ ps assign body n env => selB (andB (isRdy st) (andB (Nat.beq (lenL ps) (lenL l)) (allL (fun t => Nat.blt t n) ps)))
    ((evRd assign P cf it n (setPs ps l env)).bnd fun r => onXE r fun x e => (X.rec ((lpBsy i).bnd fun _ => (evRd body P cf it n e).bnd (endRd i)) (fun _ => M.fail "an assignment") (M.fail "an assignment") (fun _ => M.fail "an assignment") x : M V)) (M.fail "a round") m p) (.fail "no loop")).out c.ρ = some ⟨v, m', q⟩ from h)
  obtain ⟨h1, h2⟩ := M.gives_if (show (selB (andB (isRdy st) (andB (Nat.beq (lenL ps) (lenL l)) (allL (fun t => Nat.blt t n) ps))) ((evRd assign P cf it n (setPs ps l env)).bnd fun r => onXE r fun x e => (X.rec ((lpBsy i).bnd fun _ => (evRd body P cf it n e).bnd (endRd i)) (fun _ => M.fail "an assignment") (M.fail "an assignment") (fun _ => M.fail "an assignment") x : M V)) (M.fail "a round")).gives c.ρ m p v m' q from h)
  obtain ⟨h3, h4⟩ := andB_ok h1
  obtain ⟨h5, h6⟩ := andB_ok h4
  rw [beq_iff, lenL_eq, lenL_eq] at h5
  have h3 := isRdy_ok h3
  subst h3
  obtain ⟨hi, hB⟩ := (hm.blk i _ hb).live (show (Blk.lp .ready pe ps assign body n env).live c from trivial)
  obtain ⟨fn, tmps, df, k1, k2, k3, k4⟩ := hB
  obtain ⟨hRa, hRb⟩ := Bool.and_eq_true_iff.1 k4
  have hsz : args.size = ps.toArray.size := by
    have := hl.length
    simp at this ⊢
    omega
  refine ⟨fn, _, assign, body, run_yield k1 hsz, ?_⟩
  obtain ⟨z1, z2⟩ := setPs_ok k2 h6 h5 hl k3
  have hfold : (ps.toArray.zip args).foldl (fun t (p, v) => t.setIfInBounds p v) tmps = (ps.zip args.toList).foldl (fun t (p, v) => t.setIfInBounds p v) tmps := by
    rw [← Array.foldl_toList, Array.toList_zip]
  show RoundIn (Fr none) 0 P (c.β i).1 fn ((ps.toArray.zip args).foldl (fun t (p, v) => t.setIfInBounds p v) tmps) assign body w _
  rw [hfold]
  obtain ⟨r1, m1, p1, g1, g2⟩ := M.gives_bnd h2
  refine roundIn_of_wpIn trivial ?_
  refine evRd_ok hM hcf it assign hRa hρ hm hp (⟨z1, z2, hg⟩ : EnvR c n (setPs ps l env) { tmps := (ps.zip args.toList).foldl (fun t (p, v) => t.setIfInBounds p v) tmps, defers := [] }) g1 (some (c.β i).1) (fun e => nomatch e) _ fun a1 w1 hp1 hA => ?_
  obtain ⟨c1, _, s1, he1, _, _, _⟩ := hA
  obtain ⟨x, e1⟩ := r1
  cases x with
  | exit id => exact (M.gives_fail (s := "an assignment") g2).elim
  | ret => exact (M.gives_fail (s := "an assignment") g2).elim
  | goto j => exact (M.gives_fail (s := "an assignment") g2).elim
  | normal =>
    obtain ⟨_, m2, p2, g3, g4⟩ := M.gives_bnd (show ((lpBsy i).bnd fun _ => (evRd body P cf it n e1).bnd (endRd i)).gives c.ρ m1 p1 v m' q from g2)
    have hr1 := s1.le.ρ
    rw [← hr1] at g3
    obtain ⟨rfl, hi1, rl, f1, f2, f3⟩ := lpBsy_ok s1.rel g3
    have hβ1 : c1.β i = c.β i := s1.le.β i hi
    rw [hβ1] at f1 f3
    refine ⟨_, run_beginRound f1 f2, ?_⟩
    have f3' := f3
    obtain ⟨r2, m3, p3, g5, g6⟩ := M.gives_bnd g4
    refine evRd_ok hM hcf it body hRb (hr1.trans hρ) f3'.rel (by rw [hr1]; exact hp1) he1 (by rw [hr1]; exact g5) (some (c.β i).1) (fun e => nomatch e) _ fun a2 w2 hp2 hA2 => ?_
    obtain ⟨c2, _, s2, he2, _, _, _⟩ := hA2
    have hr2 := s2.le.ρ
    have hβ2 : (c2.β i).1 = (c.β i).1 := by rw [s2.le.β i hi1, hβ1]
    have := endRd_ok (P := P) s2.rel (by rw [hr2, hr1]; exact g6) (fun e w' => ∃ c' z, e = .returned z ∧ Step c m w c' m' w' ∧ VR c' v z ∧ PcR c.ρ q) (fun w' z hq s3 hz => ⟨c2, z, rfl, ((s1.trans f3').trans s2).trans s3, hz, by rw [hq]; rw [hr1] at hp2; exact hp2⟩) a2
    rw [hβ2] at this
    exact this

/-- a code without a range over a function -/
noncomputable def codeFlat (c : Code) : Bool := codeRegs c && noRF c

theorem codeFlat_seq {x y : Code} (h : codeFlat (.seq x y) = true) : codeFlat x = true ∧ codeFlat y = true := by
  obtain ⟨h1, h2⟩ := Bool.and_eq_true_iff.1 h
  obtain ⟨h3, h4⟩ := Bool.and_eq_true_iff.1 (show (codeRegs x && codeRegs y) = true from h1)
  obtain ⟨h5, h6⟩ := Bool.and_eq_true_iff.1 (show (noRF x && noRF y) = true from h2)
  exact ⟨Bool.and_eq_true_iff.2 ⟨h3, h5⟩, Bool.and_eq_true_iff.2 ⟨h4, h6⟩⟩

theorem evCode_ok (hM : P.follows .mixedOrders = true) {cf : FuncId → List V → M V} (hcf : CallsOK P ρ cf) (it : Nat) (code : Code) (hR : codeFlat code = true) ⦃c : Cx⦄ ⦃m m' : Mem⦄ ⦃w : World⦄ ⦃p q : Pc⦄ ⦃env : Env⦄ ⦃r : XE⦄ ⦃a : Act⦄ (hρ : c.ρ = ρ) (hm : MemR c m w) (hp : PcR c.ρ p) (he : EnvR c n env a)
    (h : (evCode code P cf it n env).gives c.ρ m p r m' q) (Q : Exit → Act → World → Prop) (hQ : ∀ a' w', PcR c.ρ q → After c m w m' n r.env a a' w' → Q (exitOf r.x) a' w') : code.wp P Q a w := by
  obtain ⟨h1, h2⟩ := Bool.and_eq_true_iff.1 hR
  exact wpIn_wide.1 ((evC_ok (rd := false) (fl := true) hM hcf it code h1 (fun _ => h2)).1 hρ hm hp he h none (fun _ => rfl) Q fun a' w' hq hA => hQ a' w' hq hA.plain)
end ops

end Go.Sy

/-
  What is proved here: the evaluator's calls are the model's.
  Conditions: none of the program's functions bears a certain name of Go's runtime.
-/
namespace Go.Sy

/-- what the evaluator asks of a function -/
noncomputable def goodFn (fn : Func) : Bool := !(fn.name == "runtime.NumGoroutine") && (match fn.body with | none => true | some c => codeRegs c)

/-- what the evaluator asks of a program: no function is the one that the model answers itself; the slots of each region are in order; Go's own orders -/
structure Plain (P : Program) : Prop where
  fns : ∀ (f : FuncId) (fn : Func), P.funcs[f]? = some fn → goodFn fn = true
  mixed : P.follows .mixedOrders = true

theorem Plain.of {P : Program} (h : P.funcs.toList.all goodFn = true) (hm : P.follows .mixedOrders = true) : Plain P :=
  ⟨fun f fn hf => List.all_eq_true.1 h fn (by have := Array.mem_of_getElem? hf; simpa using this), hm⟩

section ops
variable {P : Program} {ρ : Nat → Int}

/-- a result -/
def res1S (tmps : Array Value) : ResultVar → Sem Value
  | .tmp t => pure (tmps.getD t undef)
  | .cell a t => do loadVar t (← asAddr (tmps.getD a undef))

theorem res1_ok {c : Cx} {m : Mem} {w : World} {p q : Pc} {n : Nat} {env : Env} {a : Act} (hm : MemR c m w) (hp : PcR c.ρ p) (he : EnvR c n env a) {r : ResultVar} {v : V} (h : (res1 r P env).gives c.ρ m p v q) :
    q = p ∧ ∃ z, (res1S a.tmps r).run P w = .ok z w ∧ VR c v z := by
  cases r with
  | tmp t =>
    obtain ⟨rfl, rfl⟩ := R.gives_pure (show (R.pure (env t)).gives c.ρ m p v q from h)
    exact ⟨rfl, _, rfl, he.slot t⟩
  | cell s t =>
    obtain ⟨rfl, i, o, hx, y, h1, h2⟩ := loadPtr_ok hm hp (he.slot s) (show (loadPtr P t (env s)).gives c.ρ m p v q from h)
    refine ⟨rfl, y, ?_, h2⟩
    simp only [res1S, hx, asAddr, Sem.run_bind, Sem.run_pure, Result.andThen_ok, h1]

theorem resV_ok {c : Cx} {m : Mem} {w : World} {n : Nat} {env : Env} {a : Act} (hm : MemR c m w) (he : EnvR c n env a) : ∀ {rs : List ResultVar} {p q : Pc} {l : List V}, PcR c.ρ p → (resV rs P env).gives c.ρ m p l q →
    q = p ∧ ∃ zs, (rs.mapM (res1S a.tmps)).run P w = .ok zs w ∧ VRs c l zs
  | [], p, q, l, _, h => by
    obtain ⟨rfl, rfl⟩ := R.gives_pure (show (R.pure []).gives c.ρ m p l q from h)
    exact ⟨rfl, [], rfl, VRs.nil⟩
  | r :: rs, p, q, l, hp, h => by
    obtain ⟨v, p1, h1, h2⟩ := R.gives_bnd (show ((res1 r P env).bnd fun v => (resV rs P env).bnd fun r => R.pure (v :: r)).gives c.ρ m p l q from h)
    obtain ⟨rfl, z, h3, h4⟩ := res1_ok hm hp he h1
    obtain ⟨l', p2, h5, h6⟩ := R.gives_bnd h2
    obtain ⟨rfl, zs, h7, h8⟩ := resV_ok hm he hp h5
    obtain ⟨rfl, rfl⟩ := R.gives_pure h6
    refine ⟨rfl, z :: zs, ?_, VRs.cons h4 h8⟩
    rw [List.mapM_cons, Sem.run_bind, h3, Result.andThen_ok, Sem.run_bind, h7, Result.andThen_ok, Sem.run_pure]

theorem results_ok {c : Cx} {m : Mem} {w : World} {n : Nat} {env : Env} {a : Act} (hm : MemR c m w) (he : EnvR c n env a) {fn : Func} {p q : Pc} {l : List V} (hp : PcR c.ρ p) (h : (resV fn.results.toList P env).gives c.ρ m p l q) :
    q = p ∧ ∃ z, (results fn a.tmps).run P w = .ok z w ∧ VR c (oneV l) z := by
  obtain ⟨rfl, zs, h1, h2⟩ := resV_ok hm he hp h
  have hF : results fn a.tmps = (do let vs ← Array.mapM (res1S a.tmps) fn.results; pure (if h : vs.size = 1 then vs[0] else .tuple vs)) := by
    unfold results
    congr 1
  refine ⟨rfl, (if h : zs.toArray.size = 1 then zs.toArray[0] else .tuple zs.toArray), ?_, ?_⟩
  · rw [hF, Array.mapM_eq_mapM_toList, Sem.run_bind, Sem.run_map, h1]
    rfl
  · cases l with
    | nil =>
      rw [VRs.nil_iff] at h2; subst h2
      exact VR.tuple.2 ⟨#[], rfl, VRs.nil⟩
    | cons v l =>
      obtain ⟨x, ys, rfl, h3, h4⟩ := VRs.cons_iff.1 h2
      cases l with
      | nil => rw [VRs.nil_iff] at h4; subst h4; exact h3
      | cons u l =>
        obtain ⟨y, zs, rfl, h5, h6⟩ := VRs.cons_iff.1 h4
        rw [dif_neg (by simp)]
        exact VR.tuple.2 ⟨_, rfl, VRs.cons h3 (VRs.cons h5 h6)⟩

theorem setArgs_ok {c : Cx} : ∀ {l : List V} {xs : List Value} (i : Nat) {env : Env} {old : List Value}, old.length = i → VRs c l xs → (∀ j, VR c (env j) (old[j]?.getD undef)) → ∀ j, VR c (setArgs l i env j) ((old ++ xs)[j]?.getD undef)
  | [], xs, i, env, old, _, h, he, j => by
    rw [VRs.nil_iff] at h; subst h
    rw [List.append_nil]; exact he j
  | v :: l, xs, i, env, old, ho, h, he, j => by
    obtain ⟨x, ys, rfl, h1, h2⟩ := VRs.cons_iff.1 h
    have e : old ++ x :: ys = (old ++ [x]) ++ ys := by simp
    rw [e]
    refine setArgs_ok (i + 1) (by simp [ho]) h2 (fun j => ?_) j
    show VR c (Bool.rec (env j) v (Nat.beq j i)) _
    cases hj : Nat.beq j i with
    | true =>
      rw [beq_iff] at hj; subst hj
      have : (old ++ [x])[j]? = some x := by rw [List.getElem?_append_right (by omega)]; simp [ho]
      rw [this]; exact h1
    | false =>
      rw [beq_false] at hj
      have : (old ++ [x])[j]?.getD undef = old[j]?.getD undef := by
        rcases Nat.lt_or_ge j i with hlt | hge
        · rw [List.getElem?_append_left (by omega)]
        · rw [List.getElem?_eq_none (by simp; omega), List.getElem?_eq_none (by omega)]
      rw [this]; exact he j

theorem env_ok {c : Cx} (hg : GlobR c) {l : List V} {args : Array Value} (k : Nat) (h : VRs c l args.toList) :
    EnvR c (slots k l) (setArgs l 0 env0) { tmps := args ++ Array.replicate (k - args.size) undef, defers := [] } := by
  have hl : l.length = args.size := by have := h.length; simpa using this.symm
  refine ⟨?_, fun j => ?_, hg⟩
  · rw [Array.size_append, Array.size_replicate]
    show _ = (Bool.rec (lenL l) k (Nat.ble (lenL l) k) : Nat)
    rw [lenL_eq, hl]
    cases hb : Nat.ble args.size k with
    | true => rw [ble_iff] at hb; show _ = k; omega
    | false =>
      have : ¬ args.size ≤ k := fun e => by rw [(ble_iff _ _).2 e] at hb; simp at hb
      show _ = args.size; omega
  · have h1 := setArgs_ok (c := c) (l := l) (xs := args.toList) 0 (env := env0) (old := []) rfl h (fun j => by rw [List.getElem?_nil]; exact VR.undef) j
    have : (args ++ Array.replicate (k - args.size) undef).getD j undef = ([] ++ args.toList)[j]?.getD undef := by
      rw [Array.getD_eq_getD_getElem?, Array.getElem?_append, List.nil_append, Array.getElem?_toList]
      by_cases hj : j < args.size
      · rw [if_pos hj]
      · rw [if_neg hj, Array.getElem?_replicate, Array.getElem?_eq_none (by omega)]
        split <;> rfl
    rw [this]; exact h1

/-- the evaluator's run of f is the model's -/
def FnOK (P : Program) (ρ : Nat → Int) (f : FuncId) (ev : List V → M V) : Prop :=
  ∀ (l : List V) (c : Cx) (m m' : Mem) (w : World) (p q : Pc) (v : V) (args : Array Value), c.ρ = ρ → MemR c m w → PcR c.ρ p → GlobR c → VRs c l args.toList → (ev l).gives c.ρ m p v m' q → CallOK P f args c m w m' v q

/-- what is known is so -/
def KwOK (P : Program) (ρ : Nat → Int) (kw : Kw) : Prop :=
  ∀ (f : FuncId) (tr : (List V → M V) → List V → M V), kw f = some tr → ∀ ev, FnOK P ρ f ev → FnOK P ρ f (tr ev)

theorem kw0_ok : KwOK P ρ kw0 := fun f s h => by simp [kw0] at h

/-- a block for deferred calls is shut -/
theorem Step.shut {c c1 : Cx} {m m1 : Mem} {w0 w : World} (s : Step c m w0 c1 m1 w) {D : Nat} {x : Option (List Deferred)} (hD : w0.heap.size ≤ D) (h : w.heap[D]? = some (.deferred x)) (o : Obj) : Step c m w0 c1 m1 (w.putObj D o) := by
  have hn := not_wr_deferred s.rel h
  have ho : ∀ i b, m1.tr.get i = some b → b.live c1 → (w.putObj D o).heap[(c1.β i).1]? = w.heap[(c1.β i).1]? := fun i b hb hl => putObj_other fun e => hn ⟨i, b, hb, hl, e⟩
  refine ⟨⟨s.rel.nb, s.rel.nt, fun i b hb => (s.rel.blk i b hb).on (Cx.le.refl c1) (ho i b hb), s.rel.inj, s.rel.tok⟩, s.le, s.os, s.tape, s.output, ?_, fun b hb hw => ?_, s.wr, s.ad⟩
  · have := s.size
    simpa [World.putObj] using this
  · exact (putObj_other (w := w) (r := D) (k := b) (o := o) (by omega)).trans (s.frame b hb hw)

/-- a function leaves, with marks -/
theorem leaves_marks {fn : Func} {tmps : Array Value} {R : Ending → World → Prop} {c c1 : Cx} {m m1 : Mem} {w0 : World} (fin : ∀ w, Step c m w0 c1 m1 w → ∃ v, (results fn tmps).run P w = .ok v w ∧ R (.returned v) w) :
    ∀ {Ds : List Nat} {w : World}, Step c m w0 c1 m1 w → MarksR w0.heap.size w Ds → LeavesInM (Fr none) 0 P fn tmps R (Ds.map mark) .returning w
  | [], w, s, _ => fin w s
  | D :: Ds, w, s, h => by
    obtain ⟨h1, h2⟩ := h.lies D (.head _)
    obtain ⟨hn, hnd⟩ := List.nodup_cons.1 h.nodup
    refine ⟨by simp, .inl ⟨D, w.putObj D (.deferred none), rfl, run_takeDeferred h2, leaves_marks fin (s.shut h1 h2 _) ⟨hnd, fun D' hD' => ?_⟩⟩⟩
    obtain ⟨g1, g2⟩ := h.lies D' (.tail _ hD')
    refine ⟨g1, ?_⟩
    exact (putObj_other (w := w) (r := D) (k := D') (fun e => hn (by rw [← e]; exact hD'))).trans g2

theorem evOne_ok (hP : Plain P) (it : Nat) {cf : FuncId → List V → M V} (hcf : CallsOK P ρ cf) (f : FuncId) : FnOK P ρ f (evOne P cf it f) := by
    intro l c m m' w p q v args hρ hm hp hg hl h
    have h : (Option.rec (M.fail "no such function") (fun fn => evBody P cf it fn l) P.funcs[f]? : M V).gives c.ρ m p v m' q := h
    cases hf : P.funcs[f]? with
    | none => rw [hf] at h; exact (M.gives_fail (s := "no such function") h).elim
    | some fn =>
      rw [hf] at h
      have h : (Option.rec (M.fail fn.name) (fun co => (evCode co P cf it (slots fn.ntmps l) (setArgs l 0 env0)).bnd (endX P fn)) fn.body : M V).gives c.ρ m p v m' q := h
      cases hb : fn.body with
      | none => rw [hb] at h; exact (M.gives_fail (s := fn.name) h).elim
      | some co =>
        rw [hb] at h
        obtain ⟨r, m1, p1, h1, h2⟩ := M.gives_bnd (show ((evCode co P cf it (slots fn.ntmps l) (setArgs l 0 env0)).bnd (endX P fn)).gives c.ρ m p v m' q from h)
        refine ⟨⟨fn, hf, by rw [hb]; rfl, by have := hP.fns f fn hf; simp [goodFn] at this; simpa using this.1⟩, callsIn_Fr.1 (callsIn_of_wp_marks (F := Fr none) (n := 0) hf hb trivial ?_)⟩
        have hR : codeRegs co = true := by have := hP.fns f fn hf; simp [goodFn, hb] at this; exact this.2
        refine evCode_okM hP.mixed hcf it co hR hρ hm hp (env_ok hg fn.ntmps hl) h1 none (fun _ => rfl) _ fun a w' hq hA => ?_
        obtain ⟨c1, Ds, s1, he1, hd, hD, _⟩ := hA
        obtain ⟨x, env1⟩ := r
        have hr := s1.le.ρ
        have key : (∀ id, x ≠ .exit id ∧ x ≠ .goto id) → ((resV fn.results.toList P env1).thn fun l => M.pure (oneV l)).gives c.ρ m1 p1 v m' q →
            LeavesInM (Fr none) 0 P fn a.tmps (fun e w' => ∃ c' z, e = .returned z ∧ Step c m w c' m' w' ∧ VR c' v z ∧ PcR c.ρ q) a.defers .returning w' := by
          intro _ h3
          obtain ⟨rs, p2, h4, h5⟩ := R.gives_thn h3
          rw [← hr] at h4
          obtain ⟨rfl, rfl, e2⟩ := M.gives_pure h5
          have hd : a.defers = Ds.map mark := by rw [hd]; simp
          rw [hd]
          refine leaves_marks (fun w2 s2 => ?_) s1 hD
          obtain ⟨e1, z, h6, h7⟩ := results_ok s2.rel he1 (by rw [hr]; exact hq) h4
          exact ⟨z, h6, c1, z, rfl, s2, h7, by rw [e2, e1]; exact hq⟩
        cases x with
        | exit id => exact (M.gives_fail (s := "an exit") h2).elim
        | goto l => exact (M.gives_fail (s := "a goto") h2).elim
        | normal => exact key (fun _ => ⟨nofun, nofun⟩) h2
        | ret => exact key (fun _ => ⟨nofun, nofun⟩) h2

theorem evFn_ok (hP : Plain P) {kw : Kw} (hkw : KwOK P ρ kw) (it : Nat) : ∀ d, CallsOK P ρ (evFn P kw it d)
  | 0 => ⟨fun f l c m m' w p q v args _ _ _ _ _ _ h => (M.gives_fail (s := "calls too deep") h).elim, fun i l c m m' w p q v args _ _ _ _ _ _ h => (M.gives_fail (s := "calls too deep") h).elim⟩
  | d + 1 => by
    have hd := evFn_ok hP hkw it d
    have hone := fun f => evOne_ok hP it hd f
    refine ⟨?_, ?_⟩
    · intro f l c m m' w p q v args hne hρ hm hp hg hl h
      have h : (selB (Nat.beq f yId) (evYld P (evFn P kw it d) it) (Option.rec (evOne P (evFn P kw it d) it f) (fun tr => tr (evOne P (evFn P kw it d) it f)) (kw f) : List V → M V) l).gives c.ρ m p v m' q := h
      rw [(beq_false _ _).2 hne] at h
      have h : ((Option.rec (evOne P (evFn P kw it d) it f) (fun tr => tr (evOne P (evFn P kw it d) it f)) (kw f) : List V → M V) l).gives c.ρ m p v m' q := h
      cases hk : kw f with
      | none => rw [hk] at h; exact hone f l c m m' w p q v args hρ hm hp hg hl h
      | some tr => rw [hk] at h; exact hkw f tr hk _ (hone f) l c m m' w p q v args hρ hm hp hg hl h
    · intro i l c m m' w p q v args hρ hm hp hg _ hl h
      exact roundM_ok hP.mixed hd it hρ hm hp hg hl (show (roundM P (evFn P kw it d) it i l).gives c.ρ m p v m' q from h)
theorem evFn_call (hP : Plain P) {kw : Kw} (hkw : KwOK P ρ kw) (it d : Nat) {f : FuncId} (hne : f ≠ yId) : FnOK P ρ f (evFn P kw it d f) :=
  fun l c m m' w p q v args => (evFn_ok hP hkw it d).1 f l c m m' w p q v args hne
end ops

end Go.Sy

