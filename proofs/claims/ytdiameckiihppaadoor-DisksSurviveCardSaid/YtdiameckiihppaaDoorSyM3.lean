/-
  What is defined and proved here: a part of the symbolic evaluator: SyWrite, SyAppend, SyAppend2, SyAppend3, SyAppend4, SyMaps, SyBytes, SyEnv, SyOp, SyOp2, SyExt, SyOp3, SyRun, SyRun2, SyDraw3, SyDraw4.
  Conditions: none.
-/
import Derived.Test.YtdiameckiihppaaDoorSyM2
import Derived.Laws.AppendOwn
import Derived.Calls
import Derived.RangeFuncIn
import Derived.RangeFuncLeaves
import Derived.RangeFuncRecord
import Derived.OrdersIn
import Derived.TacticsIn
import Derived.Lib.Bytealg
import Derived.KernelRfl
/-
  What is proved here: the evaluator's made slices, stores, copies and appends are those of the model.
  Conditions: none.
-/
namespace Go.Sy

section ops
variable {P : Program} {c : Cx} {m m' : Mem} {w : World} {p q : Pc}

theorem elemInfo_some {t : TypeId} {a : TypeId × Nat × Nat} (h : elemInfo P t = some a) : P.underlying t = some (.slice a.1) ∧ ∃ i, P.info? a.1 = some i ∧ i.size = a.2.1 ∧ i.bytes = a.2.2 := by
  unfold elemInfo at h
  split at h
  · rename_i e he
    split at h
    · rename_i i hi
      simp at h; subst h
      exact ⟨elemOf_some he, i, hi, rfl, rfl⟩
    · simp at h
  · simp at h

theorem zeroFits_some {i : TypeInfo} (h : zeroFits i = true) : ∃ z, i.zero = some z ∧ z.cells.size = i.size := by
  unfold zeroFits at h
  split at h
  · exact ⟨_, by assumption, (beq_iff _ _).1 h⟩
  · simp at h

theorem elemSz_some {t : TypeId} {a : Nat × Nat} (h : elemSz P t = some a) : ∃ e i z, P.underlying t = some (.slice e) ∧ P.info? e = some i ∧ i.size = a.1 ∧ i.bytes = a.2 ∧ 0 < i.size ∧ 0 < i.bytes ∧ i.zero = some z ∧ z.cells.size = i.size := by
  unfold elemSz at h
  split at h
  · rename_i e he
    split at h
    · rename_i i hi
      cases hb : (Nat.blt 0 i.size && Nat.blt 0 i.bytes && zeroFits i) <;> rw [hb] at h
      · simp at h
      · simp at h; subst h
        simp only [Bool.and_eq_true, blt_iff] at hb
        obtain ⟨z, hz, hzs⟩ := zeroFits_some hb.2
        exact ⟨e, i, z, elemOf_some he, hi, rfl, rfl, hb.1.1, hb.1.2, hz, hzs⟩
    · simp at h
  · simp at h

theorem wrap_small {n : Nat} (h : n ≤ 1099511627776) : IntKind.i64.wrap (n : Int) = n :=
  wrap_in .i64 n (by simp [kMin, IntKind.signed, limN]) (by simp [kMax, limN]; omega)

theorem run_askRoom (n : Nat) : (askRoom n).run P w = .ok () w := by
  unfold askRoom; split <;> rfl

theorem makeSlice_ok (hp : PcR c.ρ p) {t : TypeId} {a b : V} {A B : Value} {bs : Blk × Shp} (ha : VR c a A) (hb : VR c b B) (h : (makeSliceR P t a b).gives c.ρ m p bs q) : PcR c.ρ q ∧ AlOK P c w bs (Instr.makeSlice t A B) := by
  unfold makeSliceR at h
  cases he : elemInfo P t with
  | none => rw [he] at h; exact (R.gives_fail h).elim
  | some i =>
    rw [he] at h
    obtain ⟨hu, ti, hti, hsz, hby⟩ := elemInfo_some he
    obtain ⟨k, el, rfl, h1⟩ := onInt_gives (s := "makeSlice") (show (onInt a (fun _ el => onInt b (fun _ ec => (splitE el).bnd fun el => (natR el).bnd fun len => (splitE ec).bnd fun ec => (natR ec).bnd fun cap => makeSliceL P len cap i) (R.fail "makeSlice")) (R.fail "makeSlice")).gives c.ρ m p bs q from h)
    obtain ⟨k', ec, rfl, h2⟩ := onInt_gives h1
    obtain ⟨el', p0, g1, h2⟩ := R.gives_bnd h2
    obtain ⟨g2, g3⟩ := splitE_gives hp g1
    obtain ⟨len, p1, h3, h4⟩ := R.gives_bnd h2
    obtain ⟨h5, rfl⟩ := natR_gives g3 h3
    obtain ⟨ec', p3, g4, h4⟩ := R.gives_bnd h4
    obtain ⟨g5, g6⟩ := splitE_gives g3 g4
    obtain ⟨cap, p2, h6, h7⟩ := R.gives_bnd h4
    obtain ⟨h8, rfl⟩ := natR_gives g6 h6
    rw [g2] at h5
    rw [g5] at h8
    obtain ⟨rfl, _⟩ := VR.int.1 ha
    obtain ⟨rfl, _⟩ := VR.int.1 hb
    unfold makeSliceL at h7
    cases hz : zcells P i.1 i.2.1 cap with
    | none => rw [hz] at h7; exact (R.gives_fail h7).elim
    | some z =>
      rw [hz] at h7
      obtain ⟨h9, h10⟩ := R.gives_if (show (selB (andB (Nat.ble len cap) (andB (Nat.ble cap 1099511627776) (Nat.ble (Nat.mul i.2.2 cap) 1099511627776))) (R.pure (newCells (repl cap z), Shp.slice len cap)) (R.fail "makeSlice great")).gives c.ρ m p2 bs q from h7)
      obtain ⟨rfl, rfl⟩ := R.gives_pure h10
      simp only [andB_iff, ble_iff] at h9
      obtain ⟨h11, h12, h13⟩ := h9
      have h13 : i.2.2 * cap ≤ 1099511627776 := h13
      have h13' : (i.2.2 : Int) * (cap : Int) ≤ 1099511627776 := by
        have : ((i.2.2 * cap : Nat) : Int) ≤ 1099511627776 := by omega
        rw [Int.natCast_mul] at this
        exact this
      have w1 : IntKind.i64.wrap (el.den c.ρ) = len := by rw [h5]; exact wrap_small (by omega)
      have w2 : IntKind.i64.wrap (ec.den c.ρ) = cap := by rw [h8]; exact wrap_small h12
      have g1 : ¬ (281474976710656 < (ti.bytes : Int) * (cap : Int)) := by rw [hby]; omega
      have g2 : ¬ ((cap : Int) < 0) := by omega
      have g3 : ¬ ((len : Int) < 0) := by omega
      have g4 : ¬ ((cap : Int) < (len : Int)) := by omega
      have g5 : ¬ (cap < len) := by omega
      rcases zcells_ok (c := c) hz with ⟨h0, rfl⟩ | ⟨h0, h15, zv, h16, h17⟩
      · refine ⟨g6, .cells #[] i.1, _, ?_, .slice (cs := #[]) ?_ h11⟩
        · have h0 : cap * ti.size = 0 := by rw [hsz]; exact h0
          simp [Instr.makeSlice, run_und hu, asInt, asIntOf, w1, w2, typeInfo, hti, g1, g2, g3, g5, sizeOf, newRow]
          simp [h0]
          have : Array.range 0 = #[] := rfl
          rw [this, Array.map_empty]
        · have : repl cap [] = [] := List.eq_nil_of_length_eq_zero (by rw [repl_length]; simp)
          rw [this]; exact VRs.nil
      · have hzs : zv.cells.size = i.2.1 := by have := h16.length; simp at this; omega
        have hr := repl_ok h16 cap
        rw [hzs] at hr
        refine ⟨g6, .cells ((Array.range (cap * i.2.1)).map fun x => zv.cells[x % i.2.1]!) i.1, _, ?_, .slice hr h11⟩
        simp [Instr.makeSlice, run_und hu, asInt, asIntOf, w1, w2, typeInfo, hti, g1, g2, g3, g5, sizeOf, newRow, h17, hsz, hzs]
        exact fun e => absurd e h0

/-! ### stores -/

theorem Wr.of {i : Nat} {b : Blk} (h : m.tr.get i = some b) (hw : b.wrB = true) : Wr c m (c.β i).1 := ⟨i, b, h, hw, rfl⟩

/-- a block that may be written, written -/
theorem Step.put (hm : MemR c m w) {i : Nat} {b b' : Blk} {w' : World} (hb : m.tr.get i = some b) (hw : b.wrB = true) (hb' : BlkR c w' (c.β i) b')
    (hsz : w'.heap.size = w.heap.size) (ho : ∀ k, k ≠ (c.β i).1 → w'.heap[k]? = w.heap[k]?) (h1 : w'.os = w.os) (h2 : w'.tape = w.tape) (h3 : w'.output = w.output) :
    Step c m w c ⟨m.tr.set i b', m.nb, m.tok, m.nt⟩ w' := by
  have hget : ∀ j d, (m.tr.set i b').get j = some d → j = i ∧ d = b' ∨ j ≠ i ∧ m.tr.get j = some d := by
    intro j d h
    rw [Tr.get_set] at h
    split at h
    · rename_i e; simp at h; exact .inl ⟨e, h.symm⟩
    · rename_i e; exact .inr ⟨e, h⟩
  have hany : ∀ j d, (m.tr.set i b').get j = some d → ∃ d', m.tr.get j = some d' := by
    intro j d h
    rcases hget j d h with ⟨rfl, _⟩ | ⟨_, h⟩
    · exact ⟨b, hb⟩
    · exact ⟨d, h⟩
  refine ⟨⟨hm.nb, hm.nt, ?_, ?_, hm.tok⟩, Cx.le.refl c, h1, h2, h3, Nat.le_of_eq hsz.symm, ?_, ?_, ?_⟩
  · intro j d h
    rcases hget j d h with ⟨rfl, rfl⟩ | ⟨hj, h⟩
    · exact .of ((hm.blk j b hb).live (Blk.wr_live hw)).1 hb'
    · exact (hm.blk j d h).on (Cx.le.refl c) fun hl => ho _ (hm.inj j i d b h hb hj (Blk.apt_right hw) hl (Blk.wr_live hw))
  · intro j k d d' h h' hjk hap l1 l2
    rcases hget j d h with ⟨rfl, _⟩ | ⟨_, g1⟩ <;> rcases hget k d' h' with ⟨rfl, _⟩ | ⟨_, g2⟩
    · exact absurd rfl hjk
    · exact hm.inj j k b d' hb g2 hjk (Blk.apt_left hw) (Blk.wr_live hw) l2
    · exact hm.inj j k d b g1 hb hjk (Blk.apt_right hw) l1 (Blk.wr_live hw)
    · exact hm.inj j k d d' g1 g2 hjk hap l1 l2
  · intro k _ hk
    exact ho k fun e => hk (e ▸ Wr.of hb hw)
  · rintro k ⟨j, d, h, h4, h5⟩
    left
    rcases hget j d h with ⟨rfl, rfl⟩ | ⟨hj, h⟩
    · exact h5 ▸ Wr.of hb hw
    · exact ⟨j, d, h, h4, h5⟩
  · rintro k ⟨j, d, h, h4, h5⟩
    left
    rcases hget j d h with ⟨rfl, rfl⟩ | ⟨hj, h⟩
    · exact ⟨_, b, hb, Blk.wr_live hw, h5⟩
    · exact ⟨j, d, h, h4, h5⟩

theorem putBlk_gives {i : Nat} {b : Blk} (h : (putBlk i b).gives c.ρ m p () m' q) : m' = ⟨m.tr.set i b, m.nb, m.tok, m.nt⟩ ∧ q = p := by
  cases m
  simp [M.gives, putBlk, T.out] at h
  exact ⟨h.1.symm, h.2.symm⟩

theorem onCellsM_gives {α : Type} {b : Option Blk} {f : List V → Bool → Bool → Option (Nat × Nat) → T (Rs α)} {s : String} {r : Rs α} {ρ : Nat → Int}
    (h : (onCells b f (.fail s)).out ρ = some r) : ∃ l wr pl g, b = some (.cells l wr pl g) ∧ (f l wr pl g).out ρ = some r := onCells_gives h

theorem run_storeCells (g o : Nat) (t : TypeId) (fr : Nat × Nat) : ∀ (vs : List Value) (i : Nat) (cur : Array Value) (w : World), w.heap[g]? = some (.cells cur t fr) → (fr = (0, 0) ∨ cur.size ≤ fr.1) → o + i + vs.length ≤ cur.size → (∀ v ∈ vs, v.oneCell' = true) →
    (storeCells ⟨g, o, none⟩ vs i).run P w = .ok () (w.setRow g (cur.toList.take (o + i) ++ vs ++ cur.toList.drop (o + i + vs.length)).toArray)
  | [], i, cur, w, hg, _, _, _ => by
    simp only [storeCells, List.append_nil, List.length_nil, Nat.add_zero, List.take_append_drop, Array.toArray_toList]
    rw [setRow_self w g cur t fr hg]
    rfl
  | v :: rest, i, cur, w, hg, hf, hl, h1 => by
    have hi : o + i < cur.size := by simp at hl; omega
    have hadd : (⟨g, o, none⟩ : Addr).add i = ⟨g, o + i, none⟩ := by unfold Addr.add; split <;> simp_all
    have hcell : w.cell? ⟨g, o + i, none⟩ = some cur[o + i] := by simp [World.cell?, hg, hi]
    have hfro : w.frozen? ⟨g, o + i, none⟩ = false := by
      simp only [World.frozen?, hg]
      rcases hf with rfl | hf
      · simp
      · simp; omega
    have hst : (store ((⟨g, o, none⟩ : Addr).add i) v).run P w = .ok () (w.setRow g (cur.setIfInBounds (o + i) v)) := by
      rw [hadd, run_store P w _ v _ (h1 v (by simp)), hcell]
      simp [hfro, setCell_eq_setRow w g (o + i) cur t fr v hg]
    have ih := run_storeCells g o t fr rest (i + 1) (cur.setIfInBounds (o + i) v) (w.setRow g (cur.setIfInBounds (o + i) v)) (setRow_heap w g cur _ t _ hg) (by simpa using hf) (by simp at hl ⊢; omega) (fun x hx => h1 x (by simp [hx]))
    simp only [storeCells, Sem.run_bind, hst, Result.andThen_ok, ih, setRow_setRow]
    congr 3
    have e := list_seg_step cur.toList (o + i) v rest (by simp at hl ⊢; omega)
    simpa [Array.toList_setIfInBounds, Nat.add_assoc] using e

theorem oneCells : ∀ {l : List V} {xs : List Value}, VRs c l xs → allCells l = true → ∀ v ∈ xs, v.oneCell' = true
  | [], xs, h, _, v, hv => by rw [VRs.nil_iff] at h; subst h; simp at hv
  | u :: l, xs, h, ha, v, hv => by
    obtain ⟨x, ys, rfl, h1, h2⟩ := VRs.cons_iff.1 h
    obtain ⟨h3, h4⟩ := allCells_cons ha
    rcases List.mem_cons.1 hv with rfl | hv
    · obtain ⟨h5, h6⟩ := h1.oneCell h3
      cases v <;> first | rfl | exact absurd rfl (h5 _) | exact absurd rfl (h6 _)
    · exact oneCells h2 h4 v hv

theorem wrCells_ok (hm : MemR c m w) {i o : Nat} {vs : List V} {xs : List Value} (hv : VRs c vs xs) (h : (wrCells i o vs).gives c.ρ m p () m' q) :
    q = p ∧ ∃ w', Step c m w c m' w' ∧ (storeCells (c.ad i o) xs 0).run P w = .ok () w' := by
  obtain ⟨l, wr, pl, g, hb, h⟩ := onCellsM_gives (show T.out c.ρ (onCells (m.tr.get i) (fun l wr pl g => selB (andB wr (allCells vs)) (wrL i pl g (over o vs l) m p) (.fail "store")) (.fail "store no row that may be written")) = some ⟨(), m', q⟩ from h)
  cases hc : andB wr (allCells vs) with
  | false => rw [hc] at h; simp [selB, T.out] at h
  | true =>
    rw [hc] at h
    have h : (wrL i pl g (over o vs l)).gives c.ρ m p () m' q := h
    obtain ⟨rfl, h1⟩ := andB_iff.1 hc
    cases hov : over o vs l with
    | none => rw [hov] at h; exact (M.gives_fail h).elim
    | some l' =>
      rw [hov] at h
      obtain ⟨rfl, rfl⟩ := putBlk_gives (show (putBlk i (.cells l' true pl g)).gives c.ρ m p () m' q from h)
      obtain ⟨h2, h3⟩ := over_ok hov
      obtain ⟨hi, hblk⟩ := hm.blk i _ hb
      obtain ⟨cs, t, fr, h4, h5, h6, h7, h8⟩ := hblk
      have hlen := hv.length
      have hcs : (c.β i).2 + l.length ≤ cs.size ∨ l.length = 0 := by
        rcases Nat.eq_zero_or_pos l.length with e | e
        · exact .inr e
        · left
          obtain ⟨x, hx, _⟩ := h5 (l.length - 1) l[l.length - 1] (List.getElem?_eq_getElem (by omega))
          have := (Array.getElem?_eq_some_iff.1 hx).1
          omega
      rcases Nat.eq_zero_or_pos vs.length with hvs | hvs
      · have : vs = [] := List.eq_nil_of_length_eq_zero hvs
        subst this
        rw [VRs.nil_iff] at hv; subst hv
        have : l' = l := by rw [h3]; simp
        subst this
        have hself : BlkR c w (c.β i) (.cells l' true pl g) := ⟨cs, t, fr, h4, h5, h6, h7, h8⟩
        exact ⟨rfl, w, Step.put hm hb rfl hself rfl (fun _ _ => rfl) rfl rfl rfl, by simp [storeCells]⟩
      · have hfit : (c.β i).2 + o + 0 + xs.length ≤ cs.size := by
          rcases hcs with e | e <;> omega
        have hrun := run_storeCells (P := P) (c.β i).1 ((c.β i).2 + o) t fr xs 0 cs w h4 (h7 rfl) hfit (oneCells hv h1)
        refine ⟨rfl, _, Step.put hm hb rfl ?_ (by simp) (fun k hk => setRow_other w _ k _ hk) rfl rfl rfl, hrun⟩
        have hsz : ((cs.toList.take ((c.β i).2 + o + 0) ++ xs ++ cs.toList.drop ((c.β i).2 + o + 0 + xs.length)).toArray).size = cs.size := by
          simp; omega
        refine ⟨_, t, fr, setRow_heap w _ cs _ t fr h4, fun j v hj => ?_, h6, fun _ => by rw [hsz]; exact h7 rfl, ?_⟩
        · rw [h3] at hj
          simp only [List.getElem?_toArray]
          have hto : (List.take o l).length = o := by simp; omega
          have htc : (cs.toList.take ((c.β i).2 + o + 0)).length = (c.β i).2 + o := by simp; omega
          rcases Nat.lt_or_ge j o with hjo | hjo
          · rw [List.append_assoc, List.getElem?_append_left (by omega), List.getElem?_take_of_lt hjo] at hj
            obtain ⟨x, hx, hr⟩ := h5 j v hj
            refine ⟨x, ?_, hr⟩
            rw [List.append_assoc, List.getElem?_append_left (by omega), List.getElem?_take_of_lt (by omega)]
            simpa using hx
          · rcases Nat.lt_or_ge j (o + vs.length) with hjv | hjv
            · rw [List.append_assoc, List.getElem?_append_right (by omega), hto, List.getElem?_append_left (by omega)] at hj
              obtain ⟨x, hx, hr⟩ := hv.get hj
              refine ⟨x, ?_, hr⟩
              rw [List.append_assoc, List.getElem?_append_right (by omega), htc, List.getElem?_append_left (by omega)]
              have : (c.β i).2 + j - ((c.β i).2 + o) = j - o := by omega
              rw [this]; exact hx
            · rw [List.append_assoc, List.getElem?_append_right (by omega), hto, List.getElem?_append_right (by omega), List.getElem?_drop] at hj
              have : o + vs.length + (j - o - vs.length) = j := by omega
              rw [this] at hj
              obtain ⟨x, hx, hr⟩ := h5 j v hj
              refine ⟨x, ?_, hr⟩
              rw [List.append_assoc, List.getElem?_append_right (by omega), htc, List.getElem?_append_right (by omega), List.getElem?_drop]
              have : (c.β i).2 + o + 0 + xs.length + ((c.β i).2 + j - ((c.β i).2 + o) - xs.length) = (c.β i).2 + j := by omega
              rw [this]; simpa using hx
        · rw [hsz]; exact h8

theorem wrSome_ok (hm : MemR c m w) {i o : Nat} {vs : List V} {xs : List Value} (hv : VRs c vs xs) (h : (wrSome i o vs).gives c.ρ m p () m' q) :
    q = p ∧ ∃ w', Step c m w c m' w' ∧ (storeCells (c.ad i o) xs 0).run P w = .ok () w' := by
  cases vs with
  | nil =>
    obtain ⟨_, rfl, rfl⟩ := M.gives_pure (show (M.pure ()).gives c.ρ m p () m' q from h)
    rw [VRs.nil_iff] at hv; subst hv
    exact ⟨rfl, w, Step.refl hm, by simp [storeCells]⟩
  | cons v vs => exact wrCells_ok hm hv h

theorem storeM_ok (hm : MemR c m w) {t : TypeId} {a x : V} {A X : Value} (ha : VR c a A) (hx : VR c x X) (h : (storeM P t a x).gives c.ρ m p () m' q) :
    q = p ∧ ∃ w', Step c m w c m' w' ∧ (Instr.storeAt t A X).run P w = .ok () w' := by
  unfold storeM at h
  cases hs : szOf P t with
  | none => rw [hs] at h; exact (M.gives_fail h).elim
  | some n =>
    rw [hs] at h
    obtain ⟨i, o, rfl, h1⟩ := onPtrM_gives (s := "store no address") (show (onPtr a (fun i o => selB (Nat.beq (lenL x.cells) n) (wrSome i o x.cells) (M.fail "store size")) (M.fail "store no address")).gives c.ρ m p () m' q from h)
    obtain ⟨h2, h3⟩ := M.gives_if h1
    obtain ⟨_, rfl⟩ := VR.ptr.1 ha
    rw [beq_iff, lenL_eq] at h2
    by_cases hb : x = .bad
    · subst hb
      exfalso
      obtain ⟨l, wr, pl, g, _, h4⟩ := onCellsM_gives (show T.out c.ρ (onCells (m.tr.get i) (fun l wr pl g => selB (andB wr (allCells [V.bad])) (wrL i pl g (over o [V.bad] l) m p) (.fail "store")) (.fail "store no row that may be written")) = some ⟨(), m', q⟩ from h3)
      have : andB wr (allCells [V.bad]) = false := by cases wr <;> rfl
      rw [this] at h4
      simp [selB, T.out] at h4
    · have hc := hx.cells hb
      obtain ⟨rfl, w', h4, h5⟩ := wrSome_ok (P := P) hm hc h3
      have hsz : X.cells.size = n := by have := hc.length; simp at this; omega
      exact ⟨rfl, w', h4, by simp [Instr.storeAt, Instr.sureAddr, storeVar, run_size hs, hsz, h5]⟩
end ops

end Go.Sy

/-
  What is proved here: the evaluator's copies and appends are those of the model.
  Conditions: none.
-/
namespace Go.Sy

section ops
variable {P : Program} {c : Cx} {m m' : Mem} {w : World} {p q : Pc}

theorem MemR.drew (h : MemR c m w) : MemR c m w.drew := (Step.drew h).rel

theorem catE0_eq {α : Type} : ∀ (a b : List α), catE0 a b = a ++ b
  | [], _ => rfl
  | x :: a, b => by show x :: catE0 a b = _; rw [catE0_eq a b]; rfl

theorem leafVs_length {a : Nat} {e : E} : ∀ {ls : List Lf} {r : Nat}, (leafVs a e ls r).length = ls.length
  | [], _ => rfl
  | _ :: ls, r => by show (leafVs a e ls (r + 1)).length + 1 = _; rw [leafVs_length]; rfl

theorem rowsV_length {a : Nat} {ls : List Lf} : ∀ {n : Nat}, (rowsV a ls n).length = n * ls.length
  | 0 => by show ([] : List V).length = _; simp
  | n + 1 => by
    show (catE0 (rowsV a ls n) (leafVs a (.n (.ofNat n)) ls 0)).length = _
    rw [catE0_eq, List.length_append, rowsV_length, leafVs_length]; rw [Nat.add_mul, Nat.one_mul]

theorem rowsV_get {a : Nat} {ls : List Lf} : ∀ {n q r : Nat}, q < n → r < ls.length → (rowsV a ls n)[q * ls.length + r]? = (leafVs a (.n (.ofNat q)) ls 0)[r]?
  | 0, _, _, h, _ => absurd h (by omega)
  | n + 1, q, r, h, hr => by
    show (catE0 (rowsV a ls n) (leafVs a (.n (.ofNat n)) ls 0))[q * ls.length + r]? = _
    rw [catE0_eq]
    by_cases hq : q = n
    · subst hq
      rw [List.getElem?_append_right (by rw [rowsV_length]; omega), rowsV_length]
      congr 1; omega
    · have h1 : (q + 1) * ls.length ≤ n * ls.length := Nat.mul_le_mul_right _ (by omega)
      rw [Nat.add_mul, Nat.one_mul] at h1
      rw [List.getElem?_append_left (by rw [rowsV_length]; omega)]
      exact rowsV_get (by omega) hr

/-- the first elements of a slice, or of a string -/
theorem firstR_ok (hm : MemR c m w) (hp : PcR c.ρ p) {sz n : Nat} {x : V} {X : Value} {l : List V} (hx : VR c x X) (h : (firstR sz n x).gives c.ρ m p l q) :
    q = p ∧ ∃ xs : Array Value, VRs c l xs.toList ∧ (Builtin.firstCells sz n X).run P w = .ok xs w ∧ (Builtin.firstCells sz n X).run P w.drew = .ok xs w.drew := by
  cases x <;> try exact (R.gives_fail (s := "slice or string") h).elim
  case slice i o len cp =>
    obtain ⟨_, cap, _, _, rfl⟩ := VR.slice.1 hx
    have hk : (rdCells i o (Nat.mul n sz)).gives c.ρ m p l q := h
    obtain ⟨rfl, _, xs, h1, h2, h3⟩ := rdCells_ok (P := P) hm hk
    refine ⟨rfl, xs, h2, h1, ?_⟩
    have hlen : xs.size = n * sz := by
      obtain ⟨_, h4, ys, h5, h6, _⟩ := rdCells_ok (P := P) hm hk
      have := h2.length; simp at this; rw [this, h4]; rfl
    have : (loadCells (c.ad i o) (n * sz)).run P w.drew = .ok (((List.range (n * sz)).map fun j => xs[j]!).toArray) w.drew :=
      run_loadCells w.drew (c.ad i o) (n * sz) _ fun j hj => by
        have hj' : j < xs.size := by omega
        have h4 := h3 j xs[j] (by simp [hj'])
        rw [getElem!_pos xs j hj']
        exact h4
    have he : ((List.range (n * sz)).map fun j => xs[j]!).toArray = xs := by
      apply Array.ext
      · simp [hlen]
      · intro j h4 h5
        simp at h4
        simp [getElem!_pos xs j h5]
    rw [he] at this
    exact this
  case sarr i sz' e =>
    have h : (rowsR i sz e n).gives c.ρ m p l q := h
    obtain ⟨_, N, cap, hN, _, h2⟩ := VR.sarr.1 hx
    cases n with
    | zero =>
      obtain ⟨rfl, rfl⟩ := R.gives_pure (show (R.pure []).gives c.ρ m p l q from h)
      have h1 : ∀ (a : Option Addr) (N cap : Nat) (w : World), (Builtin.firstCells sz 0 (.slice a N cap)).run P w = .ok #[] w := fun a N cap w => by
        cases a with
        | none => simp [Builtin.firstCells]
        | some a =>
          have := run_loadCells (P := P) w a 0 (fun _ => undef) (fun j hj => by omega)
          simpa [Builtin.firstCells] using this
      rcases h2 with ⟨_, rfl⟩ | ⟨_, a, rfl, _⟩
      · exact ⟨rfl, #[], VRs.nil, h1 _ _ _ w, h1 _ _ _ w.drew⟩
      · exact ⟨rfl, #[], VRs.nil, h1 _ _ _ w, h1 _ _ _ w.drew⟩
    | succ k =>
      obtain ⟨_, p0, g0, h9⟩ := R.gives_bnd (show ((mustR (mkLt (.n (.ofNat k)) e)).bnd fun _ m p => onRow (m.tr.get i) (fun a ls nn => selB (Nat.beq (lenL ls) sz) ((mustR (mkLt (.n (.ofNat k)) nn)).bnd fun _ => R.pure (rowsV a ls (Nat.succ k))) (R.fail "slice or string") m p) (.fail "slice or string")).gives c.ρ m p l q from h)
      obtain ⟨g1, rfl⟩ := mustR_gives hp g0
      rw [mkLt_den, hN] at g1
      have g1 : (k : Int) < N := of_decide_eq_true g1
      obtain ⟨a, ls, nn, hb, h3⟩ := onRow_gives h9
      have h3 : (selB (Nat.beq (lenL ls) sz) ((mustR (mkLt (.n (.ofNat k)) nn)).bnd fun _ => R.pure (rowsV a ls (Nat.succ k))) (R.fail "slice or string")).gives c.ρ m p0 l q := h3
      obtain ⟨h4, h5⟩ := R.gives_if h3
      rw [beq_iff, lenL_eq] at h4
      obtain ⟨_, p1, h6, h7⟩ := R.gives_bnd h5
      obtain ⟨h8, rfl⟩ := mustR_gives hp h6
      obtain ⟨rfl, rfl⟩ := R.gives_pure h7
      rw [mkLt_den] at h8
      have h8 : (k : Int) < nn.den c.ρ := of_decide_eq_true h8
      obtain ⟨_, rfl⟩ : 0 < N ∧ X = .slice (some (c.ad i 0)) N cap := h2.resolve_right fun g => by omega
      have hcell : ∀ j, j < (k + 1) * sz → ∃ v x, (rowsV a ls (k + 1))[j]? = some v ∧ w.cell? ((c.ad i 0).add j) = some x ∧ VR c v x := by
        intro j hj
        have hsz : 0 < sz := Nat.pos_of_ne_zero fun e => by subst e; simp at hj
        have hq : j / sz < k + 1 := Nat.div_lt_of_lt_mul (by rw [Nat.mul_comm]; exact hj)
        have hr : j % sz < ls.length := by rw [h4]; exact Nat.mod_lt _ hsz
        have hl : ls[j % sz]? = some ls[j % sz] := List.getElem?_eq_getElem hr
        obtain ⟨x, hx, hxr⟩ := row_cell hm hb (q := j / sz) (by omega) hl
        have e1 : (j / sz) * ls.length + j % sz = j := by rw [h4, Nat.mul_comm]; exact Nat.div_add_mod j sz
        refine ⟨leafV a (.n (.ofNat (j / sz))) ls[j % sz] (0 + j % sz), x, ?_, ?_, leafV_ok rfl (by rw [Nat.zero_add]; exact hxr)⟩
        · have := rowsV_get (a := a) hq hr
          rw [e1] at this
          rw [this, leafVs_get, hl]; rfl
        · rw [e1] at hx
          rw [Cx.ad_add, Nat.zero_add]; exact hx
      obtain ⟨xs, k1, k2⟩ := loadCells_of (P := P) (c := c) (w := w) (i := i) (o := 0) (n := (k + 1) * sz) (by rw [rowsV_length, h4]) hcell
      refine ⟨rfl, xs, k2, by simpa [Builtin.firstCells] using k1, ?_⟩
      have hget : ∀ j, j < (k + 1) * sz → w.drew.cell? ((c.ad i 0).add j) = some (((w.cell? ((c.ad i 0).add j)).getD undef)) := fun j hj => by
        obtain ⟨v, x, _, hx, _⟩ := hcell j hj
        rw [hx]; exact hx
      have r1 := run_loadCells (P := P) w (c.ad i 0) ((k + 1) * sz) (fun j => (w.cell? ((c.ad i 0).add j)).getD undef) fun j hj => hget j hj
      have r2 := run_loadCells (P := P) w.drew (c.ad i 0) ((k + 1) * sz) (fun j => (w.cell? ((c.ad i 0).add j)).getD undef) fun j hj => hget j hj
      rw [r1] at k1
      simp only [Result.ok.injEq, and_true] at k1
      rw [← k1]
      simpa [Builtin.firstCells] using r2
  case nilSlice =>
    obtain ⟨rfl, rfl⟩ := R.gives_pure (show (R.pure []).gives c.ρ m p l q from h)
    rw [VR.nilSlice] at hx; subst hx
    exact ⟨rfl, #[], VRs.nil, by simp [Builtin.firstCells], by simp [Builtin.firstCells]⟩
  case eslice i z =>
    obtain ⟨_, o, cap, rfl, _⟩ := VR.eslice.1 hx
    cases n with
    | succ n => exact (R.gives_fail (s := "slice or string") h).elim
    | zero =>
      obtain ⟨rfl, rfl⟩ := R.gives_pure (show (R.pure []).gives c.ρ m p l q from h)
      have h1 : ∀ w, (Builtin.firstCells sz 0 (.slice (some (c.ad i o)) 0 cap)).run P w = .ok #[] w := fun w => by
        have := run_loadCells (P := P) w (c.ad i o) 0 (fun _ => undef) (fun j hj => by omega)
        simpa [Builtin.firstCells] using this
      exact ⟨rfl, #[], VRs.nil, h1 w, h1 w.drew⟩
  case str es =>
    obtain ⟨s, rfl, hs⟩ := VR.str.1 hx
    obtain ⟨h1, rfl⟩ := R.gives_opt (show (R.opt "bytes" ((takeE n es).map fun r => r.map (V.int .u8))).gives c.ρ m p l q from h)
    obtain ⟨r, h2, rfl⟩ := Option.map_eq_some_iff.1 h1
    obtain ⟨h3, h4⟩ := takeE_eq h2
    refine ⟨rfl, (s.extract 0 n).data.map fun b => .int .u8 b.toNat, ?_, by simp [Builtin.firstCells], by simp [Builtin.firstCells]⟩
    have hn : n ≤ es.length := by rw [h3] at h4; simp at h4; omega
    have hsl := hs.length
    have hsz : s.data.size = es.length := by simpa using hsl
    refine VRs.of_get ?_ fun j v hv => ?_
    · have : s.size = s.data.size := rfl
      simp [ByteArray.data_extract, h4]; omega
    · rw [List.getElem?_map, Option.map_eq_some_iff] at hv
      obtain ⟨e, he, rfl⟩ := hv
      rw [h3, List.getElem?_take] at he
      split at he
      · rename_i hj
        obtain ⟨b, hb, hd⟩ := hs.get he
        refine ⟨.int .u8 b.toNat, ?_, VR.int.2 ⟨by rw [hd], by rw [hd]; simp [kMin, IntKind.signed], ?_⟩⟩
        · have hb' : s.data[j]? = some b := by simpa using hb
          simp [ByteArray.data_extract, hj, hb']
        · rw [hd]; have := b.toNat_lt; simp [kMax, limN]; omega
      · simp at he

theorem knN_ok (hp : PcR c.ρ p) {e : E} {n : Nat} (h : knN p e = some n) (h0 : 0 ≤ e.den c.ρ) : e.den c.ρ = n := by
  unfold knN at h
  cases hi : ivf p e with
  | none => rw [hi] at h; exact absurd (show none = some n from h) (by simp)
  | some r =>
    rw [hi] at h
    have h : selB (eqZ r.1 r.2) (some (Int.toNat r.1)) none = some n := h
    cases h1 : eqZ r.1 r.2 with
    | false => rw [h1] at h; exact absurd (show none = some n from h) (by simp)
    | true =>
      rw [h1] at h
      have h2 : Int.toNat r.1 = n := Option.some.inj h
      rw [eqZ_iff] at h1
      have h3 : r.1 ≤ e.den c.ρ ∧ e.den c.ρ ≤ r.2 := ivf_ok hp e r.1 r.2 hi
      omega

theorem lenV_ok (hp : PcR c.ρ p) {x : V} {X : Value} {n : Nat} (hx : VR c x X) (h : lenV p x = some n) (w' : World) : (Builtin.lenOf X).run P w' = .ok n w' := by
  cases x <;> try exact absurd (show none = some n from h) (by simp)
  case slice i o len cp =>
    obtain ⟨_, cap, _, _, rfl⟩ := VR.slice.1 hx
    have h : some len = some n := h
    simp at h; subst h
    simp [Builtin.lenOf]
  case sarr i sz e =>
    obtain ⟨_, N, cap, hN, _, h2⟩ := VR.sarr.1 hx
    have h1 := knN_ok hp (show knN p e = some n from h) (by omega)
    have e1 : N = n := by omega
    subst e1
    rcases h2 with ⟨_, rfl⟩ | ⟨rfl, a, rfl, _⟩ <;> simp [Builtin.lenOf]
  case nilSlice =>
    rw [VR.nilSlice] at hx; subst hx
    have h : some 0 = some n := h
    simp at h; subst h
    simp [Builtin.lenOf]
  case eslice i z =>
    obtain ⟨_, o, cap, rfl, _⟩ := VR.eslice.1 hx
    have h : some 0 = some n := h
    simp at h; subst h
    simp [Builtin.lenOf]
  case str l =>
    obtain ⟨s, rfl, hs⟩ := VR.str.1 hx
    have h : some (lenL l) = some n := h
    simp at h; subst h
    have : lenL l = s.size := by rw [lenL_eq, ← hs.length]; simp
    simp [Builtin.lenOf, this]

/-- what an operation that may write does -/
def EfOK (P : Program) (c : Cx) (m : Mem) (w : World) (m' : Mem) (v : V) (s : Sem Value) : Prop :=
  ∃ c' w' z, Step c m w c' m' w' ∧ s.run P w = .ok z w' ∧ VR c' v z

theorem minN_eq (a b : Nat) : minN a b = Nat.min a b := by
  unfold minN
  cases h : Nat.ble a b with
  | true => rw [ble_iff] at h; show a = Nat.min a b; exact (Nat.min_eq_left h).symm
  | false =>
    have : ¬ a ≤ b := fun e => by rw [(ble_iff _ _).2 e] at h; simp at h
    show b = Nat.min a b
    exact (Nat.min_eq_right (by omega)).symm

theorem copyM_ok (hm : MemR c m w) (hp : PcR c.ρ p) {t ty : TypeId} {ts : Array TypeId} {xs : Array Value} {d s v : V} {D S : Value} (hts : ts[0]? = some t) (h0 : xs[0]? = some D) (h1 : xs[1]? = some S) (hd : VR c d D) (hs : VR c s S)
    (h : (copyM P t d s).gives c.ρ m p v m' q) : q = p ∧ EfOK P c m w m' v (Builtin.copy_ ts ty xs) := by
  have h : (copyN P t d s (lenV p d) (lenV p s)).gives c.ρ m p v m' q := h
  unfold copyN at h
  cases ha : slcOf P t with
  | none => rw [ha] at h; exact (M.gives_fail h).elim
  | some a =>
    cases hdn : lenV p d with
    | none => rw [ha, hdn] at h; exact (M.gives_fail h).elim
    | some dn =>
      cases hsn : lenV p s with
      | none => rw [ha, hdn, hsn] at h; exact (M.gives_fail h).elim
      | some sn =>
        rw [ha, hdn, hsn] at h
        obtain ⟨hu, hsz⟩ := slcOf_some ha
        obtain ⟨l, p1, h2, h3⟩ := R.gives_thn (show ((firstR a.2 (minN sn dn) s).thn fun l => copyL (minN sn dn) d l).gives c.ρ m p v m' q from h)
        clear h
        obtain ⟨rfl, cells, h4, h5, _⟩ := firstR_ok (P := P) hm hp hs h2
        rw [minN_eq] at h5
        have hls := lenV_ok (P := P) hp hs hsn w
        have hld := lenV_ok (P := P) hp hd hdn w
        cases d <;> try exact (M.gives_fail (s := "copy") h3).elim
        case nilSlice =>
          rw [VR.nilSlice] at hd; subst hd
          have hz : dn = 0 := by have : some 0 = some dn := hdn; simpa using this.symm
          subst hz
          cases l with
          | cons => exact (M.gives_fail (s := "copy") h3).elim
          | nil =>
            rw [VRs.nil_iff] at h4
            have h3 : ((lenN (minN sn 0)).thn M.pure).gives c.ρ m p1 v m' q := h3
            obtain ⟨v', p2, h6, h7⟩ := R.gives_thn h3
            obtain ⟨rfl, rfl, rfl⟩ := M.gives_pure h7
            obtain ⟨rfl, h8⟩ := lenN_ok h6
            refine ⟨rfl, c, w, _, Step.refl hm, ?_, h8⟩
            have hmn : Nat.min sn 0 = 0 := Nat.min_eq_right (Nat.zero_le _)
            rw [hmn] at h5
            simp [Builtin.copy_, hts, h0, h1, run_und hu, hls, run_size hsz, hmn, h5, minN_eq]
        case slice i o len cp =>
          obtain ⟨_, cap, _, _, rfl⟩ := VR.slice.1 hd
          have hz : dn = len := by have : some len = some dn := hdn; simpa using this.symm
          subst hz
          obtain ⟨_, m1, p2, h6, h7⟩ := M.gives_bnd (show ((wrSome i o l).bnd fun _ => (lenN (minN sn dn)).thn M.pure).gives c.ρ m p1 v m' q from h3)
          obtain ⟨v', p3, h8, h9⟩ := R.gives_thn h7
          obtain ⟨rfl, rfl, rfl⟩ := M.gives_pure h9
          obtain ⟨rfl, h10⟩ := lenN_ok h8
          obtain ⟨rfl, w', h11, h12⟩ := wrSome_ok (P := P) hm h4 h6
          refine ⟨rfl, c, w', _, h11, ?_, h10⟩
          simp [Builtin.copy_, hts, h0, h1, run_und hu, hls, run_size hsz, h5, h12, minN_eq]

/-! ### appends -/

theorem plainSrc_ok {ts : Array TypeId} {t : TypeId} {us : List TypeId} (hts : ts.toList = t :: us) (h : plainSrc P us = true) :
    ts[0]? = some t ∧ (ts[1]? = none ∨ ∃ u d, ts[1]? = some u ∧ P.underlying u = some d ∧ ∀ k, d ≠ .int k) := by
  have h0 : ts[0]? = some t := by rw [← Array.getElem?_toList, hts]; rfl
  refine ⟨h0, ?_⟩
  cases us with
  | nil => left; rw [← Array.getElem?_toList, hts]; rfl
  | cons u us =>
    right
    unfold plainSrc at h
    simp only at h
    split at h
    · simp at h
    · rename_i d h1 h2
      exact ⟨u, d, by rw [← Array.getElem?_toList, hts]; rfl, h2, fun k e => h1 k (by rw [e])⟩
    · simp at h

/-- is the second argument a number? it is not -/
theorem no_int {d : TypeDesc} (hd : ∀ k, d ≠ .int k) : (d matches .int _) = false := by
  cases d <;> first | exact absurd rfl (hd _) | rfl

/-- an append with room -/
theorem run_append_in {t ty e : TypeId} {ts : Array TypeId} {us : List TypeId} {xs : Array Value} {base : Option Addr} {sLen sCap n : Nat} {X : Value} {i : TypeInfo} {news : Array Value} {w' : World}
    (hts : ts.toList = t :: us) (hpl : plainSrc P us = true) (h0 : xs[0]? = some (.slice base sLen sCap)) (h1 : xs[1]? = some X) (ht : P.underlying t = some (.slice e)) (hi : P.info? e = some i)
    (hn : (Builtin.lenOf X).run P w = .ok n w) (hf : (Builtin.firstCells i.size n X).run P w = .ok news w) (hr : sLen + n ≤ sCap)
    (hs : match base with | none => w' = w | some a => (storeCells (a.add (sLen * i.size)) news.toList).run P w = .ok () w') :
    (Builtin.append_ ts ty xs).run P w = .ok (.slice base (sLen + n) sCap) w' := by
  obtain ⟨ht0, ht1⟩ := plainSrc_ok (P := P) hts hpl
  rcases ht1 with ht1 | ⟨u, d, ht1, hu, hd⟩
  · cases base with
    | none => subst hs; simp [Builtin.append_, ht0, ht1, h0, h1, run_und ht, sizeOf, run_info hi, hn, hr, hf]
    | some a => simp [Builtin.append_, ht0, ht1, h0, h1, run_und ht, sizeOf, run_info hi, hn, hr, hf, hs]
  · unfold Builtin.append_
    simp only [ht0, ht1, h0, h1]
    rw [Sem.run_bind, run_und ht, Result.andThen_ok]
    simp only []
    rw [Sem.run_bind, show (sizeOf e).run P w = .ok i.size w by simp [sizeOf, run_info hi], Result.andThen_ok, Sem.run_bind, run_und hu, Result.andThen_ok]
    simp only []
    cases base with
    | none => subst hs; simp [hn, hr, hf]
    | some a => simp [hn, hr, hf, hs]

/-- an append that lays a new row -/
theorem run_append_new {t ty e : TypeId} {ts : Array TypeId} {us : List TypeId} {xs : Array Value} {base : Option Addr} {sLen sCap n : Nat} {X z : Value} {i : TypeInfo} {olds news : Array Value}
    (hts : ts.toList = t :: us) (hpl : plainSrc P us = true) (h0 : xs[0]? = some (.slice base sLen sCap)) (h1 : xs[1]? = some X) (ht : P.underlying t = some (.slice e)) (hi : P.info? e = some i) (hz : i.zero = some z)
    (hn : (Builtin.lenOf X).run P w = .ok n w) (ho : (Builtin.firstCells i.size sLen (.slice base sLen sCap)).run P w.drew = .ok olds w.drew) (hf : (Builtin.firstCells i.size n X).run P w.drew = .ok news w.drew)
    (hr : sCap < sLen + n) (hb : 0 < i.bytes) (hg : (sLen + n) * i.bytes ≤ 1099511627776) :
    (Builtin.append_ ts ty xs).run P w = .ok (.slice (some ⟨w.heap.size, 0, none⟩) (sLen + n) (grownCap w (sLen + n) sCap e))
      (w.drew.alloc (.cells (olds ++ news ++ Builtin.zeroCells z.cells (grownCap w (sLen + n) sCap e - (sLen + n))) e)) := by
  obtain ⟨ht0, ht1⟩ := plainSrc_ok (P := P) hts hpl
  have hr' : ¬ (sLen + n ≤ sCap) := by omega
  have hle : sLen + n ≤ (sLen + n) * i.bytes := Nat.le_mul_of_pos_right _ hb
  have hb' : i.bytes ≠ 0 := by omega
  have h48 : ¬ (281474976710656 < Builtin.nextslicecap (sLen + n) sCap * i.bytes) := by
    have := growslice_fits hr (bytes := i.bytes) (by omega)
    omega
  rcases ht1 with ht1 | ⟨u, d, ht1, hu, hd⟩
  · simp [Builtin.append_, ht0, ht1, h0, h1, run_und ht, sizeOf, run_info hi, zeroValue, hz, hn, hr', hb', h48, ho, hf, Question.forced, newRow, grownCap]
  · unfold Builtin.append_
    simp only [ht0, ht1, h0, h1]
    rw [Sem.run_bind, run_und ht, Result.andThen_ok]
    simp only []
    rw [Sem.run_bind, show (sizeOf e).run P w = .ok i.size w by simp [sizeOf, run_info hi], Result.andThen_ok, Sem.run_bind, run_und hu, Result.andThen_ok]
    simp only []
    simp [run_info hi, zeroValue, hz, hn, hr', hb', h48, ho, hf, Question.forced, newRow, grownCap]
end ops

end Go.Sy

/-
  What is proved here: the evaluator's appends are those of the model.
  Conditions: none.
-/
namespace Go.Sy

def Cx.addL (c : Cx) (loc : Nat × Nat) : Cx := { c with β := fun i => if i = c.nb then loc else c.β i, nb := c.nb + 1, has := fun i => c.has i ∨ i = c.nb, lt := fun i h => h.elim (fun h => Nat.lt_succ_of_lt (c.lt i h)) (fun h => h ▸ Nat.lt_succ_self _) }
theorem Cx.le_addL (c : Cx) (loc : Nat × Nat) : c.le (c.addL loc) := ⟨rfl, Nat.le_succ _, Nat.le_refl _, fun _ h => .inl h, fun _ hi h => h.elim id fun e => by omega, fun i hi => if_neg (by have := c.lt i hi; omega), fun _ _ => rfl⟩

section ops
variable {P : Program} {c : Cx} {m m' : Mem} {w : World} {p q : Pc}

theorem Cx.addL_new {loc : Nat × Nat} : (c.addL loc).β c.nb = loc := if_pos rfl
theorem Cx.addL_old {loc : Nat × Nat} {i : Nat} (h : c.has i) : (c.addL loc).β i = c.β i := if_neg (by have := c.lt i h; omega)

/-- a block that is known no more -/
theorem Step.kill (hm : MemR c m w) (i : Nat) : Step c m w c ⟨m.tr.del i, m.nb, m.tok, m.nt⟩ w := by
  have hget : ∀ j d, (m.tr.del i).get j = some d → m.tr.get j = some d := by
    intro j d h
    rw [Tr.get_del] at h
    split at h
    · simp at h
    · exact h
  refine ⟨⟨hm.nb, hm.nt, fun j d h => hm.blk j d (hget j d h), fun j k d d' h h' hjk hap l1 l2 => hm.inj j k d d' (hget j d h) (hget k d' h') hjk hap l1 l2, hm.tok⟩, Cx.le.refl c, rfl, rfl, rfl, Nat.le_refl _, fun _ _ _ => rfl, ?_, ?_⟩ <;>
  · rintro k ⟨j, d, h, h4, h5⟩
    exact .inl ⟨j, d, hget j d h, h4, h5⟩

/-- a block that is written, and known by another name behind that -/
theorem Step.move (hm : MemR c m w) {i : Nat} {b b' : Blk} {w' : World} {loc : Nat × Nat} (hb : m.tr.get i = some b) (hw : b.wrB = true) (hl : loc.1 = (c.β i).1) (hb' : BlkR (c.addL loc) w' loc b')
    (hsz : w'.heap.size = w.heap.size) (ho : ∀ k, k ≠ (c.β i).1 → w'.heap[k]? = w.heap[k]?) (h1 : w'.os = w.os) (h2 : w'.tape = w.tape) (h3 : w'.output = w.output) :
    Step c m w (c.addL loc) ⟨(m.tr.del i).set m.nb b', Nat.succ m.nb, m.tok, m.nt⟩ w' := by
  have hget : ∀ j d, ((m.tr.del i).set m.nb b').get j = some d → j = c.nb ∧ d = b' ∨ j ≠ c.nb ∧ j ≠ i ∧ m.tr.get j = some d := by
    intro j d h
    rw [Tr.get_set, ← hm.nb] at h
    split at h
    · rename_i e; simp at h; exact .inl ⟨e, h.symm⟩
    · rename_i e
      rw [Tr.get_del] at h
      split at h
      · simp at h
      · rename_i e'; exact .inr ⟨e, e', h⟩
  have hlt : ∀ j d, m.tr.get j = some d → d.live c → c.has j := fun j d h hl => ((hm.blk j d h).live hl).1
  refine ⟨⟨?_, hm.nt, ?_, ?_, hm.tok⟩, c.le_addL loc, h1, h2, h3, Nat.le_of_eq hsz.symm, ?_, ?_, ?_⟩
  · show c.nb + 1 = m.nb + 1; rw [hm.nb]
  · intro j d h
    rcases hget j d h with ⟨rfl, rfl⟩ | ⟨_, hj, g⟩
    · exact .of (.inr rfl) (by rw [Cx.addL_new]; exact hb')
    · exact (hm.blk j d g).on (c.le_addL loc) fun hl => ho _ (hm.inj j i d b g hb hj (Blk.apt_right hw) hl (Blk.wr_live hw))
  · intro j k d d' h h' hjk hap l1 l2
    rw [Blk.live_le (c.le_addL loc)] at l1 l2
    rcases hget j d h with ⟨rfl, e1⟩ | ⟨_, hj, g1⟩ <;> rcases hget k d' h' with ⟨rfl, e2⟩ | ⟨_, hk, g2⟩
    · exact absurd rfl hjk
    · rw [Cx.addL_new, Cx.addL_old (hlt k d' g2 l2), hl]
      exact fun e => hm.inj k i d' b g2 hb hk (Blk.apt_right hw) l2 (Blk.wr_live hw) e.symm
    · rw [Cx.addL_new, Cx.addL_old (hlt j d g1 l1), hl]
      exact hm.inj j i d b g1 hb hj (Blk.apt_right hw) l1 (Blk.wr_live hw)
    · rw [Cx.addL_old (hlt j d g1 l1), Cx.addL_old (hlt k d' g2 l2)]
      exact hm.inj j k d d' g1 g2 hjk hap l1 l2
  · intro k _ hk
    exact ho k fun e => hk (e ▸ Wr.of hb hw)
  · rintro k ⟨j, d, h, h4, h5⟩
    left
    rcases hget j d h with ⟨rfl, rfl⟩ | ⟨_, hj, g⟩
    · rw [Cx.addL_new, hl] at h5; exact h5 ▸ Wr.of hb hw
    · rw [Cx.addL_old (hlt j d g (Blk.wr_live h4))] at h5; exact ⟨j, d, g, h4, h5⟩
  · rintro k ⟨j, d, h, h4, h5⟩
    left
    rcases hget j d h with ⟨rfl, rfl⟩ | ⟨_, hj, g⟩
    · rw [Cx.addL_new, hl] at h5; exact ⟨i, b, hb, Blk.wr_live hw, h5⟩
    · have h4 := (Blk.live_le (c.le_addL loc)).1 h4; rw [Cx.addL_old (hlt j d g h4)] at h5; exact ⟨j, d, g, h4, h5⟩

theorem growM_gives {sz need : Nat} {l : List V} {v : V} (h : (growM sz need l).gives c.ρ m p v m' q) :
    l.length = need * sz ∧ q = p ∧ v = .slice m.nb 0 need (.t m.nt 0) ∧ m' = ⟨m.tr.set m.nb (.cells l true true (some (m.nt, sz))), Nat.succ m.nb, m.tok.set m.nt need, Nat.succ m.nt⟩ := by
  obtain ⟨h1, h2⟩ := M.gives_if (show (selB (Nat.beq (lenL l) (Nat.mul need sz)) ((newTok need).bnd fun tk => (newBlk (.cells l true true (some (tk, sz)))).bnd fun i => M.pure (V.slice i 0 need (.t tk 0))) (M.fail "append size")).gives c.ρ m p v m' q from h)
  obtain ⟨tk, m1, p1, h3, h4⟩ := M.gives_bnd h2
  obtain ⟨rfl, rfl, rfl⟩ := newTok_gives h3
  obtain ⟨i, m2, p2, h5, h6⟩ := M.gives_bnd h4
  obtain ⟨rfl, rfl, rfl⟩ := newBlk_gives h5
  obtain ⟨rfl, rfl, rfl⟩ := M.gives_pure h6
  rw [beq_iff, lenL_eq] at h1
  exact ⟨h1, rfl, rfl, rfl⟩

/-- a new row behind a draw -/
theorem growM_ok (hm : MemR c m w) {sz need cap : Nat} {l : List V} {v : V} (h : (growM sz need l).gives c.ρ m p v m' q) {xs : List Value} {cs : Array Value} {e : TypeId} (hl : VRs c l xs)
    (hcs : ∀ (j : Nat) (y : Value), xs[j]? = some y → cs[j]? = some y) (hcap : need ≤ cap) (hsz : cap * sz ≤ cs.size) :
    q = p ∧ ∃ c', Step c m w c' m' (w.drew.alloc (.cells cs e)) ∧ VR c' v (.slice (some ⟨w.heap.size, 0, none⟩) need cap) := by
  obtain ⟨_, rfl, rfl, rfl⟩ := growM_gives h
  have s1 := Step.drew hm
  have s2 := Step.tok s1.rel (lb := need) (n := cap) hcap
  have hnt : (c.addT cap).γ c.nt = cap := if_pos rfl
  have s3 := Step.new s2.rel (b := .cells l true true (some (m.nt, sz))) (o := .cells cs e) ⟨cs, e, (0, 0), heap_push_new w.drew _, fun j v hj => by
      obtain ⟨x, hx, hr⟩ := hl.get hj
      exact ⟨x, by simpa using hcs j x hx, hr.mono ((c.le_addT cap).trans ((c.addT cap).le_addB w.drew))⟩, fun _ => rfl, fun _ => .inl rfl, by
      refine ⟨?_, ?_⟩
      · show m.nt < c.nt + 1; rw [hm.nt]; exact Nat.lt_succ_self _
      · show 0 + (c.addT cap).γ m.nt * sz ≤ cs.size
        rw [← hm.nt, hnt]; omega⟩
  refine ⟨rfl, _, (s1.trans s2).trans s3, VR.slice.2 ⟨?_, cap, ⟨?_, ?_⟩, hcap, ?_⟩⟩
  · exact .inr hm.nb.symm
  · show m.nt < c.nt + 1; rw [hm.nt]; exact Nat.lt_succ_self _
  · show cap + 0 = (c.addT cap).γ m.nt
    rw [← hm.nt, hnt]; rfl
  · unfold Cx.ad
    rw [← hm.nb]
    show _ = Value.slice (some ⟨(((c.addT cap).addB w.drew).β (c.addT cap).nb).1, (((c.addT cap).addB w.drew).β (c.addT cap).nb).2 + 0, none⟩) need cap
    rw [Cx.addB_new]; rfl

theorem isOn_gives {i tk sz : Nat} (h : (isOn i tk sz).gives c.ρ m p () m' q) : m' = m ∧ q = p ∧ ∃ l, m.tr.get i = some (.cells l true true (some (tk, sz))) := by
  have h' : (selB (goesOn (m.tr.get i) tk sz) (T.ret (⟨(), m, p⟩ : Rs Unit)) (.fail "append a row of another make")).out c.ρ = some ⟨(), m', q⟩ := h
  cases hg : goesOn (m.tr.get i) tk sz with
  | false => rw [hg] at h'; simp [selB, T.out] at h'
  | true =>
    rw [hg] at h'
    simp only [selB, T.out, Option.some.injEq, Rs.mk.injEq] at h'
    obtain ⟨_, rfl, rfl⟩ := h'
    refine ⟨rfl, rfl, ?_⟩
    cases hb : m.tr.get i with
    | none => rw [hb] at hg; exact (Bool.false_ne_true hg).elim
    | some b =>
      rw [hb] at hg
      cases b with
      | map => exact (Bool.false_ne_true hg).elim
      | siter => exact (Bool.false_ne_true hg).elim
      | srow => exact (Bool.false_ne_true hg).elim
      | pm => exact (Bool.false_ne_true hg).elim
      | rsv => exact (Bool.false_ne_true hg).elim
      | lp => exact (Bool.false_ne_true hg).elim
      | cells l wr pl g =>
        cases g with
        | none => exact absurd (show andB wr (andB pl false) = true from hg) (by simp)
        | some a =>
          obtain ⟨a1, a2⟩ := a
          have hg : andB wr (andB pl (andB (Nat.beq a1 tk) (Nat.beq a2 sz))) = true := hg
          simp only [andB_iff, beq_iff] at hg
          obtain ⟨rfl, rfl, rfl, rfl⟩ := hg
          exact ⟨l, rfl⟩

theorem killBlk_gives {i : Nat} (h : (killBlk i).gives c.ρ m p () m' q) : m' = ⟨m.tr.del i, m.nb, m.tok, m.nt⟩ ∧ q = p := by
  cases m
  simp [M.gives, killBlk, T.out] at h
  exact ⟨h.1.symm, h.2.symm⟩

theorem size_zero (z : Array Value) (n : Nat) : (Builtin.zeroCells z n).size = n * z.size := by simp [Builtin.zeroCells]

/-- the cells of a new row -/
theorem row_front {olds news zs : Array Value} {j : Nat} {y : Value} (h : (olds.toList ++ news.toList)[j]? = some y) : (olds ++ news ++ zs)[j]? = some y := by
  have hj : j < (olds ++ news).size := by
    have := (List.getElem?_eq_some_iff.1 h).1
    simpa using this
  rw [Array.getElem?_append_left hj, ← Array.getElem?_toList, Array.toList_append]
  exact h

theorem firstR_length (hm : MemR c m w) {sz n : Nat} {i o len : Nat} {cp : Cp} {l : List V} (h : (firstR sz n (.slice i o len cp)).gives c.ρ m p l q) : l.length = n * sz :=
  (rdCells_ok (P := default) hm (show (rdCells i o (Nat.mul n sz)).gives c.ρ m p l q from h)).2.1

/-- an append with a new row, as a step -/
theorem appNew_ok (hm : MemR c m w) {sz sLen sCap n : Nat} {lo ln : List V} {v : V} {olds news : Array Value} {t ty e : TypeId} {ts : Array TypeId} {us : List TypeId} {xs : Array Value} {base : Option Addr} {X z : Value} {i : TypeInfo}
    (h : (growM sz (sLen + n) (lo ++ ln)).gives c.ρ m p v m' q) (hlo : VRs c lo olds.toList) (hln : VRs c ln news.toList)
    (hts : ts.toList = t :: us) (hpl : plainSrc P us = true) (h0 : xs[0]? = some (.slice base sLen sCap)) (h1 : xs[1]? = some X) (ht : P.underlying t = some (.slice e)) (hi : P.info? e = some i) (hz : i.zero = some z)
    (hzs : z.cells.size = i.size) (hisz : i.size = sz)
    (hn : (Builtin.lenOf X).run P w = .ok n w) (ho : (Builtin.firstCells i.size sLen (.slice base sLen sCap)).run P w.drew = .ok olds w.drew) (hf : (Builtin.firstCells i.size n X).run P w.drew = .ok news w.drew)
    (hr : sCap < sLen + n) (hb : 0 < i.bytes) (hg : (sLen + n) * i.bytes ≤ 1099511627776) :
    q = p ∧ EfOK P c m w m' v (Builtin.append_ ts ty xs) := by
  have hrun := run_append_new (ty := ty) hts hpl h0 h1 ht hi hz hn ho hf hr hb hg
  have hge : sLen + n ≤ grownCap w (sLen + n) sCap e := grownCap_ge w (sLen + n) sCap e
  obtain ⟨hl, _⟩ := growM_gives h
  have hlen : olds.size + news.size = (sLen + n) * sz := by
    have a := hlo.length; have b := hln.length
    simp at a b
    rw [← hl, List.length_append]; omega
  obtain ⟨rfl, c', h2, h3⟩ := growM_ok hm h (cs := olds ++ news ++ Builtin.zeroCells z.cells (grownCap w (sLen + n) sCap e - (sLen + n))) (e := e) (hlo.append hln) (fun j y hy => row_front hy) hge (by
    rw [Array.size_append, Array.size_append, hlen, size_zero, hzs, hisz, ← Nat.add_mul]
    exact Nat.le_of_eq (by congr 1; omega))
  exact ⟨rfl, c', _, _, h2, hrun, h3⟩

theorem cell_ad (hm : MemR c m w) {i o : Nat} {l : List V} {n : Nat} (h : (rdCells i o n).gives c.ρ m p l q) (w' : World) (hw : ∀ j, j < n → w'.cell? ((c.ad i o).add j) = w.cell? ((c.ad i o).add j)) :
    ∃ olds : Array Value, VRs c l olds.toList ∧ (loadCells (c.ad i o) n).run P w' = .ok olds w' := by
  obtain ⟨_, h1, xs, h2, h3, h4⟩ := rdCells_ok (P := P) hm h
  have hlen : xs.size = n := by have := h3.length; simp at this; omega
  have : (loadCells (c.ad i o) n).run P w' = .ok (((List.range n).map fun j => xs[j]!).toArray) w' :=
    run_loadCells w' (c.ad i o) n _ fun j hj => by
      have hj' : j < xs.size := by omega
      rw [getElem!_pos xs j hj', hw j hj]
      exact h4 j xs[j] (by simp [hj'])
  have he : ((List.range n).map fun j => xs[j]!).toArray = xs := by
    apply Array.ext
    · simp [hlen]
    · intro j h5 h6
      simp at h5
      simp [getElem!_pos xs j h6]
  rw [he] at this
  exact ⟨xs, h3, this⟩
end ops

end Go.Sy

/-
  What is proved here: the evaluator's append is that of the model.
  Conditions: none.
-/
namespace Go.Sy

section ops
variable {P : Program} {c : Cx} {m m' : Mem} {w : World} {p q : Pc}

theorem firstR_zero (hm : MemR c m w) {sz : Nat} {x : V} {l : List V} (h : (firstR sz 0 x).gives c.ρ m p l q) : l = [] := by
  cases x <;> try exact (R.gives_fail (s := "slice or string") h).elim
  case slice i o len cp =>
    have := firstR_length hm h
    exact List.eq_nil_of_length_eq_zero (by simpa using this)
  case sarr => exact (R.gives_pure (show (R.pure []).gives c.ρ m p l q from h)).1
  case nilSlice => exact (R.gives_pure (show (R.pure []).gives c.ρ m p l q from h)).1
  case eslice => exact (R.gives_pure (show (R.pure []).gives c.ρ m p l q from h)).1
  case str es =>
    obtain ⟨h1, _⟩ := R.gives_opt (show (R.opt "bytes" ((takeE 0 es).map fun r => r.map (V.int .u8))).gives c.ρ m p l q from h)
    have h1 : some [] = some l := h1
    simpa using h1.symm

theorem run_first0 (sz : Nat) (a : Addr) (len cap : Nat) (w : World) : (Builtin.firstCells sz 0 (.slice (some a) len cap)).run P w = .ok #[] w := by
  have := run_loadCells (P := P) w a 0 (fun _ => undef) (fun j hj => by omega)
  simpa [Builtin.firstCells] using this

theorem firstCells_zero {x : V} {X : Value} {sz n : Nat} (hx : VR c x X) (hn : lenV p x = some n) : (Builtin.firstCells sz 0 X).run P w = .ok #[] w := by
  cases x <;> try exact absurd (show none = some n from hn) (by simp)
  case slice i o len cp =>
    obtain ⟨_, cap, _, _, rfl⟩ := VR.slice.1 hx
    exact run_first0 _ _ _ _ _
  case eslice i z =>
    obtain ⟨_, o, cap, rfl, _⟩ := VR.eslice.1 hx
    exact run_first0 _ _ _ _ _
  case sarr i sz' e =>
    obtain ⟨_, N, cap, _, _, h2⟩ := VR.sarr.1 hx
    rcases h2 with ⟨_, rfl⟩ | ⟨_, a, rfl, _⟩
    · exact run_first0 _ _ _ _ _
    · cases a with
      | none => simp [Builtin.firstCells]
      | some a => exact run_first0 _ _ _ _ _
  case nilSlice => rw [VR.nilSlice] at hx; subst hx; simp [Builtin.firstCells]
  case str l => obtain ⟨s, rfl, _⟩ := VR.str.1 hx; simp [Builtin.firstCells]

/-- an append within a row of unknown capacity -/
theorem appHere_ok (hm : MemR c m w) {i o sz len n k tk cap : Nat} {l lo : List V} {v : V} {news olds : Array Value} {lk : List V}
    (hb : m.tr.get i = some (.cells lk true true (some (tk, sz)))) (hg : (growM sz (len + n) (lo ++ l)).gives c.ρ ⟨m.tr.del i, m.nb, m.tok, m.nt⟩ p v m' q)
    (hlo : VRs c lo olds.toList) (holds : ∀ (j : Nat) (y : Value), olds.toList[j]? = some y → w.cell? ((c.ad i o).add j) = some y) (hloz : lo.length = len * sz)
    (hl : VRs c l news.toList) (hall : allCells l = true) (ho : o = k * sz) (hcap : cap + k = c.γ tk) (hr : len + n ≤ cap) :
    q = p ∧ ∃ c' w', Step c m w c' m' w' ∧ (storeCells ((c.ad i o).add (len * sz)) news.toList).run P w = .ok () w' ∧ VR c' v (.slice (some (c.ad i o)) (len + n) cap) := by
  obtain ⟨hlen, rfl, rfl, rfl⟩ := growM_gives hg
  obtain ⟨hi, cs, t, fr, h4, _, h6, _, h8⟩ := hm.blk i _ hb
  have hfr := h6 rfl
  subst hfr
  have h8 : (c.β i).2 + c.γ tk * sz ≤ cs.size := h8.2
  have hls := hl.length
  have hos := hlo.length
  have hnl : news.toList.length = n * sz := by
    rw [List.length_append, hloz, Nat.add_mul] at hlen; omega
  have hfit' : o + len * sz + n * sz ≤ c.γ tk * sz := by
    rw [ho, ← hcap, ← Nat.add_mul, ← Nat.add_mul]
    exact Nat.mul_le_mul_right _ (by omega)
  have hfit : (c.β i).2 + (o + len * sz) + 0 + news.toList.length ≤ cs.size := by omega
  have hrun := run_storeCells (P := P) (c.β i).1 ((c.β i).2 + (o + len * sz)) t (0, 0) news.toList 0 cs w h4 (.inl rfl) hfit (oneCells hl hall)
  have s1 := Step.tok hm (lb := len + n) (n := cap) hr
  have hnt : (c.addT cap).γ c.nt = cap := if_pos rfl
  have hsz : ((cs.toList.take ((c.β i).2 + (o + len * sz) + 0) ++ news.toList ++ cs.toList.drop ((c.β i).2 + (o + len * sz) + 0 + news.toList.length)).toArray).size = cs.size := by
    have hns : news.size = n * sz := by simpa using hnl
    simp; omega
  have s2 := Step.move s1.rel (i := i) (loc := ((c.β i).1, (c.β i).2 + o)) (b' := .cells (lo ++ l) true true (some (m.nt, sz)))
    (w' := w.setRow (c.β i).1 (cs.toList.take ((c.β i).2 + (o + len * sz) + 0) ++ news.toList ++ cs.toList.drop ((c.β i).2 + (o + len * sz) + 0 + news.toList.length)).toArray)
    hb rfl rfl (by
      refine ⟨_, t, (0, 0), setRow_heap w _ cs _ t (0, 0) h4, fun j v hj => ?_, fun _ => rfl, fun _ => .inl rfl, ?_, ?_⟩
      · have hle := (c.le_addT cap).trans ((c.addT cap).le_addL ((c.β i).1, (c.β i).2 + o))
        simp only [List.getElem?_toArray]
        have htc : (cs.toList.take ((c.β i).2 + (o + len * sz) + 0)).length = (c.β i).2 + (o + len * sz) := by simp; omega
        rcases Nat.lt_or_ge j (len * sz) with hjl | hjl
        · rw [List.getElem?_append_left (by omega)] at hj
          obtain ⟨x, hx, hr'⟩ := hlo.get hj
          refine ⟨x, ?_, hr'.mono hle⟩
          have hc := holds j x hx
          rw [Cx.ad_add] at hc
          have hc : cs[(c.β i).2 + (o + j)]? = some x := by simpa [World.cell?, Cx.ad, h4] using hc
          show (List.take _ cs.toList ++ news.toList ++ List.drop _ cs.toList)[(c.β i).2 + o + j]? = some x
          rw [List.append_assoc, List.getElem?_append_left (by omega), List.getElem?_take_of_lt (by omega), Nat.add_assoc]
          simpa using hc
        · rw [List.getElem?_append_right (by omega)] at hj
          obtain ⟨x, hx, hr'⟩ := hl.get hj
          refine ⟨x, ?_, hr'.mono hle⟩
          have hjn := (List.getElem?_eq_some_iff.1 hx).1
          show (List.take _ cs.toList ++ news.toList ++ List.drop _ cs.toList)[(c.β i).2 + o + j]? = some x
          rw [List.append_assoc, List.getElem?_append_right (by omega), htc, List.getElem?_append_left (by omega)]
          have : (c.β i).2 + o + j - ((c.β i).2 + (o + len * sz)) = j - lo.length := by omega
          rw [this]; exact hx
      · show m.nt < c.nt + 1; rw [hm.nt]; exact Nat.lt_succ_self _
      · rw [hsz]
        show (c.β i).2 + o + (c.addT cap).γ m.nt * sz ≤ cs.size
        rw [← hm.nt, hnt]
        have : o + cap * sz = c.γ tk * sz := by rw [ho, ← hcap, ← Nat.add_mul, Nat.add_comm]
        omega)
    (by simp) (fun k' hk => setRow_other w _ k' _ hk) rfl rfl rfl
  refine ⟨rfl, _, _, s1.trans s2, ?_, VR.slice.2 ⟨?_, cap, ⟨?_, ?_⟩, hr, ?_⟩⟩
  · rw [Cx.ad_add]; exact hrun
  · exact .inr hm.nb.symm
  · show m.nt < c.nt + 1; rw [hm.nt]; exact Nat.lt_succ_self _
  · show cap + 0 = (c.addT cap).γ m.nt
    rw [← hm.nt, hnt]; rfl
  · unfold Cx.ad
    rw [← hm.nb]
    show _ = Value.slice (some ⟨(((c.addT cap).addL ((c.β i).1, (c.β i).2 + o)).β (c.addT cap).nb).1, (((c.addT cap).addL ((c.β i).1, (c.β i).2 + o)).β (c.addT cap).nb).2 + 0, none⟩) (len + n) cap
    rw [Cx.addL_new]; rfl
end ops

end Go.Sy

/-
  What is proved here: the evaluator's append is that of the model (the whole).
  Conditions: none.
-/
namespace Go.Sy

section ops
variable {P : Program} {c : Cx} {m m' : Mem} {w : World} {p q : Pc}

theorem EfOK.after {m1 : Mem} {v : V} {s : Sem Value} (h : Step c m w c m1 w) (k : EfOK P c m1 w m' v s) : EfOK P c m w m' v s := by
  obtain ⟨c', w', z, h1, h2, h3⟩ := k
  exact ⟨c', w', z, h.trans h1, h2, h3⟩

theorem appendP_ok (hm : MemR c m w) (hp : PcR c.ρ p) {t ty : TypeId} {ts : Array TypeId} {us : List TypeId} {xs : Array Value} {s x v : V} {S X : Value} (hts : ts.toList = t :: us) (h0 : xs[0]? = some S) (h1 : xs[1]? = some X) (hs : VR c s S) (hx : VR c x X)
    (h : (appendP P t us s x).gives c.ρ m p v m' q) : q = p ∧ EfOK P c m w m' v (Builtin.append_ ts ty xs) := by
  have h : (appendN P t us s x (lenV p x)).gives c.ρ m p v m' q := h
  unfold appendN at h
  cases ha : elemSz P t with
  | none => rw [ha] at h; exact (M.gives_fail h).elim
  | some a =>
    cases hn : lenV p x with
    | none => rw [ha, hn] at h; exact (M.gives_fail h).elim
    | some n =>
      rw [ha, hn] at h
      obtain ⟨hpl, hk⟩ := M.gives_if (show (selB (plainSrc P us) (appV a.1 a.2 n s x) (M.fail "append of a made slice")).gives c.ρ m p v m' q from h)
      clear h
      obtain ⟨e, i, z, ht, hi, hisz, hiby, hpos, hbpos, hz, hzs⟩ := elemSz_some ha
      have hlen := lenV_ok (P := P) hp hx hn w
      cases s <;> try exact (M.gives_fail (s := "append") hk).elim
      case nilSlice =>
        rw [VR.nilSlice] at hs; subst hs
        obtain ⟨h2, h3⟩ := M.gives_if (show (selB (Nat.ble (Nat.mul n a.2) bigN) (appNil a.1 n x) (M.fail "append great")).gives c.ρ m p v m' q from hk)
        rw [ble_iff] at h2
        have h2 : n * a.2 ≤ 1099511627776 := h2
        cases n with
        | zero =>
          obtain ⟨rfl, rfl, rfl⟩ := M.gives_pure (show (M.pure V.nilSlice).gives c.ρ m p v m' q from h3)
          have hf := firstCells_zero (P := P) (w := w) (sz := i.size) hx hn
          have hr := run_append_in (ty := ty) (sLen := 0) (sCap := 0) hts hpl h0 h1 ht hi hlen hf (Nat.le_refl 0) (show w = w from rfl)
          exact ⟨rfl, c, w, _, Step.refl hm, hr, VR.nilSlice.2 rfl⟩
        | succ k =>
          obtain ⟨l, p1, h4, h5⟩ := R.gives_thn (show ((firstR a.1 (Nat.succ k) x).thn fun l => growM a.1 (Nat.succ k) l).gives c.ρ m p v m' q from h3)
          obtain ⟨rfl, news, h6, _, h8⟩ := firstR_ok (P := P) hm hp hx h4
          rw [← hisz] at h8
          have h5 : (growM a.1 (0 + (k + 1)) ([] ++ l)).gives c.ρ m p1 v m' q := by rw [Nat.zero_add]; exact h5
          exact appNew_ok hm h5 (olds := #[]) VRs.nil h6 hts hpl h0 h1 ht hi hz hzs hisz hlen (run_firstCells_none _ _ _ _ _) h8 (by omega) hbpos (by rw [hiby, Nat.zero_add]; exact h2)
      case eslice b z =>
        obtain ⟨hb, o, cap, rfl, hzc⟩ := VR.eslice.1 hs
        cases n with
        | zero =>
          obtain ⟨rfl, rfl, rfl⟩ := M.gives_pure (show (M.pure (V.eslice b z)).gives c.ρ m p v m' q from hk)
          have hf := firstCells_zero (P := P) (w := w) (sz := i.size) hx hn
          have hr := run_append_in (ty := ty) (base := some (c.ad b o)) (sLen := 0) (sCap := cap) (w' := w) hts hpl h0 h1 ht hi hlen hf (Nat.zero_le cap) (show (storeCells ((c.ad b o).add (0 * i.size)) (#[] : Array Value).toList).run P w = .ok () w by simp [storeCells])
          exact ⟨rfl, c, w, _, Step.refl hm, hr, hs⟩
        | succ k =>
          obtain ⟨h2, h3⟩ := M.gives_if (show (selB (Nat.ble (Nat.mul (Nat.succ k) a.2) bigN) (appEs a.1 (Nat.succ k) b z x) (M.fail "append")).gives c.ρ m p v m' q from hk)
          rw [ble_iff] at h2
          have h2 : (k + 1) * a.2 ≤ 1099511627776 := h2
          obtain ⟨l, p1, h4, h5⟩ := R.gives_thn h3
          obtain ⟨rfl, news, h6, h9, h8⟩ := firstR_ok (P := P) hm hp hx h4
          rw [← hisz] at h8
          cases z with
          | some y =>
            obtain ⟨o', tk, k'⟩ := y
            obtain ⟨_, m1, p3, h11, h12⟩ := M.gives_bnd (show ((isOn b tk a.1).bnd fun _ => selB (andB (Nat.beq o' (Nat.mul k' a.1)) (allCells l)) ((killBlk b).bnd fun _ => growM a.1 (Nat.succ k) l) (M.fail "append a slice at another place")).gives c.ρ m p1 v m' q from h5)
            obtain ⟨rfl, rfl, lk, hbk⟩ := isOn_gives h11
            obtain ⟨h13, h14⟩ := M.gives_if h12
            obtain ⟨h15, h16⟩ := andB_iff.1 h13
            rw [beq_iff] at h15
            obtain ⟨_, m2, p4, h17, h18⟩ := M.gives_bnd h14
            obtain ⟨rfl, rfl⟩ := killBlk_gives h17
            have h18 : (growM a.1 (0 + (k + 1)) ([] ++ l)).gives c.ρ ⟨m1.tr.del b, m1.nb, m1.tok, m1.nt⟩ p4 v m' q := by rw [Nat.zero_add]; exact h18
            rw [← hisz] at h9
            by_cases hr : 0 + (k + 1) ≤ cap
            · rcases hzc.2 with hz0 | ⟨ho, hck⟩
              · omega
              · subst ho
                obtain ⟨rfl, c', w', h19, h20, h21⟩ := appHere_ok (P := P) hm hbk h18 (olds := #[]) VRs.nil (fun j y h => by simp at h) (by simp) h6 h16 h15 hck hr
                rw [← hisz] at h20
                have hrun := run_append_in (ty := ty) (base := some (c.ad b o)) (w' := w') hts hpl h0 h1 ht hi hlen h9 hr h20
                exact ⟨rfl, c', w', _, h19, hrun, h21⟩
            · have s1 := Step.kill hm b
              obtain ⟨rfl, h19⟩ := appNew_ok (ty := ty) s1.rel h18 (olds := #[]) VRs.nil h6 hts hpl h0 h1 ht hi hz hzs hisz hlen (run_first0 _ _ _ _ _) h8 (by omega) hbpos (by rw [hiby, Nat.zero_add]; exact h2)
              exact ⟨rfl, h19.after s1⟩
          | none =>
          have hzc : cap = 0 := hzc
          subst hzc
          have h5 : (growM a.1 (0 + (k + 1)) ([] ++ l)).gives c.ρ m p1 v m' q := by rw [Nat.zero_add]; exact h5
          exact appNew_ok hm h5 (olds := #[]) VRs.nil h6 hts hpl h0 h1 ht hi hz hzs hisz hlen (run_first0 _ _ _ _ _) h8 (by omega) hbpos (by rw [hiby, Nat.zero_add]; exact h2)
      case slice b o len cp =>
        obtain ⟨hb, cap, hcap, hlc, rfl⟩ := VR.slice.1 hs
        obtain ⟨h2, h3⟩ := M.gives_if (show (selB (Nat.ble (Nat.mul (Nat.add len n) a.2) bigN) _ (M.fail "append great")).gives c.ρ m p v m' q from hk)
        rw [ble_iff] at h2
        have h2 : (len + n) * a.2 ≤ 1099511627776 := h2
        cases cp with
        | u => exact (M.gives_fail (show (M.fail "append the capacity" : M V).gives c.ρ m p v m' q from h3)).elim
        | n k =>
          have hcap : cap = k := hcap
          subst hcap
          have h3 : (selB (Nat.ble (Nat.add len n) cap) (appIn a.1 n b o len cap x) (appGrow a.1 n b o len x)).gives c.ρ m p v m' q := h3
          cases hr : Nat.ble (Nat.add len n) cap with
          | true =>
            rw [hr] at h3
            rw [ble_iff] at hr
            have hr : len + n ≤ cap := hr
            obtain ⟨l, p1, h4, h5⟩ := R.gives_thn (show ((firstR a.1 n x).thn fun l => (wrSome b (Nat.add o (Nat.mul len a.1)) l).bnd fun _ => M.pure (V.slice b o (Nat.add len n) (.n cap))).gives c.ρ m p v m' q from h3)
            obtain ⟨rfl, news, h6, h7, _⟩ := firstR_ok (P := P) hm hp hx h4
            obtain ⟨_, m1, p2, h8, h9⟩ := M.gives_bnd h5
            obtain ⟨rfl, rfl, rfl⟩ := M.gives_pure h9
            obtain ⟨rfl, w', h10, h11⟩ := wrSome_ok (P := P) hm h6 h8
            rw [← hisz] at h7 h11
            have hrun := run_append_in (ty := ty) (base := some (c.ad b o)) hts hpl h0 h1 ht hi hlen h7 hr (show (storeCells ((c.ad b o).add (len * i.size)) news.toList).run P w = .ok () w' by rw [Cx.ad_add]; exact h11)
            exact ⟨rfl, c, w', _, h10, hrun, VR.slice.2 ⟨hb, cap, rfl, hr, rfl⟩⟩
          | false =>
            rw [hr] at h3
            have hr : ¬ (len + n ≤ cap) := fun e => by rw [show Nat.ble (Nat.add len n) cap = true from (ble_iff _ _).2 e] at hr; exact absurd hr (by simp)
            obtain ⟨lo, p1, h4, h5⟩ := R.gives_thn (show ((rdCells b o (Nat.mul len a.1)).thn fun old => (firstR a.1 n x).thn fun l => growM a.1 (Nat.add len n) (catV old l)).gives c.ρ m p v m' q from h3)
            obtain ⟨rfl, _⟩ := rdCells_ok (P := P) hm h4
            obtain ⟨olds, ho1, ho2⟩ := cell_ad (P := P) hm h4 w.drew (fun _ _ => rfl)
            obtain ⟨l, p2, h6, h7⟩ := R.gives_thn h5
            obtain ⟨rfl, news, h8, _, h10⟩ := firstR_ok (P := P) hm hp hx h6
            rw [← hisz] at h10
            have ho2 : (Builtin.firstCells i.size len (.slice (some (c.ad b o)) len cap)).run P w.drew = .ok olds w.drew := by rw [hisz]; exact ho2
            rw [catV_eq] at h7
            exact appNew_ok hm (show (growM a.1 (len + n) (lo ++ l)).gives c.ρ m p2 v m' q from h7) ho1 h8 hts hpl h0 h1 ht hi hz hzs hisz hlen ho2 h10 (by omega) hbpos (by rw [hiby]; exact h2)
        | t tk k =>
          have h3 : (selB (roomHere m a.1 n b o len tk k) (appRoom a.1 n b o len tk k x m p) (appTok0 a.1 n b o len tk k x m p)).out c.ρ = some ⟨v, m', q⟩ := h3
          cases hrm : roomHere m a.1 n b o len tk k with
          | true =>
            rw [hrm] at h3
            obtain ⟨hr, _⟩ := andB_iff.1 hrm
            rw [ble_iff] at hr
            have hr : len + n ≤ cap := by
              cases ht' : m.tok.get tk with
              | none => unfold lbTok at hr; rw [ht'] at hr; have hr : len + n + k ≤ 0 := hr; omega
              | some n' =>
                have h5 := (hm.tok tk n' ht').2
                unfold lbTok at hr; rw [ht'] at hr
                have h6 : cap + k = c.γ tk := hcap.2
                have hr : len + n + k ≤ n' := hr
                omega
            obtain ⟨l, p1, h4, h5⟩ := R.gives_thn (show ((firstR a.1 n x).thn fun l => (wrSome b (Nat.add o (Nat.mul len a.1)) l).bnd fun _ => M.pure (V.slice b o (Nat.add len n) (.t tk k))).gives c.ρ m p v m' q from h3)
            obtain ⟨rfl, news, h6, h7, _⟩ := firstR_ok (P := P) hm hp hx h4
            obtain ⟨_, m1, p2, h8, h9⟩ := M.gives_bnd h5
            obtain ⟨rfl, rfl, rfl⟩ := M.gives_pure h9
            obtain ⟨rfl, w', h10, h11⟩ := wrSome_ok (P := P) hm h6 h8
            rw [← hisz] at h7 h11
            have hrun := run_append_in (ty := ty) (base := some (c.ad b o)) hts hpl h0 h1 ht hi hlen h7 hr (show (storeCells ((c.ad b o).add (len * i.size)) news.toList).run P w = .ok () w' by rw [Cx.ad_add]; exact h11)
            exact ⟨rfl, c, w', _, h10, hrun, VR.slice.2 ⟨hb, cap, hcap, hr, rfl⟩⟩
          | false =>
          rw [hrm] at h3
          have h3 : (appTok0 a.1 n b o len tk k x).gives c.ρ m p v m' q := h3
          cases n with
          | zero =>
            obtain ⟨l, p1, h4, h5⟩ := R.gives_thn (show ((firstR a.1 0 x).thn fun _ => M.pure (V.slice b o len (.t tk k))).gives c.ρ m p v m' q from h3)
            obtain ⟨rfl, rfl, rfl⟩ := M.gives_pure h5
            have hl := firstR_zero hm h4
            subst hl
            obtain ⟨rfl, news, h6, h7, _⟩ := firstR_ok (P := P) hm hp hx h4
            rw [VRs.nil_iff] at h6
            rw [← hisz] at h7
            have hrun := run_append_in (ty := ty) (base := some (c.ad b o)) (w' := w) hts hpl h0 h1 ht hi hlen h7 (show len + 0 ≤ cap from hlc) (show (storeCells ((c.ad b o).add (len * i.size)) news.toList).run P w = .ok () w by rw [h6]; simp [storeCells])
            exact ⟨rfl, c, w, _, Step.refl hm, hrun, hs⟩
          | succ n' =>
            obtain ⟨lo, p1, h4, h5⟩ := R.gives_thn (show ((rdCells b o (Nat.mul len a.1)).thn fun old => (firstR a.1 (Nat.succ n') x).thn fun l => (isOn b tk a.1).bnd fun _ =>
              selB (andB (Nat.beq o (Nat.mul k a.1)) (allCells l)) ((killBlk b).bnd fun _ => growM a.1 (Nat.add len (Nat.succ n')) (catV old l)) (M.fail "append a slice at another place")).gives c.ρ m p v m' q from h3)
            obtain ⟨rfl, hloz, oldv, ho3, ho4, ho5⟩ := rdCells_ok (P := P) hm h4
            obtain ⟨olds, ho1, ho2⟩ := cell_ad (P := P) hm h4 w.drew (fun _ _ => rfl)
            obtain ⟨l, p2, h6, h7⟩ := R.gives_thn h5
            obtain ⟨rfl, news, h8, h9, h10⟩ := firstR_ok (P := P) hm hp hx h6
            obtain ⟨_, m1, p3, h11, h12⟩ := M.gives_bnd h7
            obtain ⟨rfl, rfl, lk, hbk⟩ := isOn_gives h11
            obtain ⟨h13, h14⟩ := M.gives_if h12
            obtain ⟨h15, h16⟩ := andB_iff.1 h13
            rw [beq_iff] at h15
            obtain ⟨_, m2, p4, h17, h18⟩ := M.gives_bnd h14
            obtain ⟨rfl, rfl⟩ := killBlk_gives h17
            rw [catV_eq] at h18
            have h18 : (growM a.1 (len + (n' + 1)) (lo ++ l)).gives c.ρ ⟨m1.tr.del b, m1.nb, m1.tok, m1.nt⟩ p4 v m' q := h18
            rw [← hisz] at h9 h10
            by_cases hr : len + (n' + 1) ≤ cap
            · obtain ⟨rfl, c', w', h19, h20, h21⟩ := appHere_ok (P := P) hm hbk h18 ho4 ho5 hloz h8 h16 h15 hcap.2 hr
              rw [← hisz] at h20
              have hrun := run_append_in (ty := ty) (base := some (c.ad b o)) (w' := w') hts hpl h0 h1 ht hi hlen h9 hr h20
              exact ⟨rfl, c', w', _, h19, hrun, h21⟩
            · have s1 := Step.kill hm b
              have ho2 : (Builtin.firstCells i.size len (.slice (some (c.ad b o)) len cap)).run P w.drew = .ok olds w.drew := by rw [hisz]; exact ho2
              obtain ⟨rfl, h19⟩ := appNew_ok (ty := ty) s1.rel h18 ho1 h8 hts hpl h0 h1 ht hi hz hzs hisz hlen ho2 h10 (by omega) hbpos (by rw [hiby]; exact h2)
              exact ⟨rfl, h19.after s1⟩

theorem intSrc_ok {ts : Array TypeId} {t : TypeId} {us : List TypeId} (hts : ts.toList = t :: us) (h : intSrc P us = true) : ts[0]? = some t ∧ ∃ u k, ts[1]? = some u ∧ P.underlying u = some (.int k) := by
  have h0 : ts[0]? = some t := by rw [← Array.getElem?_toList, hts]; rfl
  refine ⟨h0, ?_⟩
  cases us with
  | nil => exact (Bool.false_ne_true h).elim
  | cons u us =>
    have h1 : ts[1]? = some u := by rw [← Array.getElem?_toList, hts]; rfl
    unfold intSrc at h
    cases hd : P.underlying u with
    | none => simp only [hd] at h; exact (Bool.false_ne_true h).elim
    | some d =>
      simp only [hd] at h
      cases d <;> first | exact (Bool.false_ne_true h).elim | exact ⟨u, _, h1, hd⟩

theorem run_append_made {t ty e u : TypeId} {k k' : IntKind} {ts : Array TypeId} {xs : Array Value} {n : Nat} {z : Value} {i : TypeInfo} (ht0 : ts[0]? = some t) (ht1 : ts[1]? = some u) (hu : P.underlying u = some (.int k))
    (h0 : xs[0]? = some (.slice none 0 0)) (h1 : xs[1]? = some (.int k' (n : Int))) (ht : P.underlying t = some (.slice e)) (hi : P.info? e = some i) (hz : i.zero = some z) (hn : 0 < n) (hs : 0 < i.size) (hb : 0 < i.bytes) (hg : n * i.bytes ≤ 1099511627776) :
    (Builtin.append_ ts ty xs).run P w = .ok (.slice (some ⟨w.heap.size, 0, none⟩) n (grownCap w n 0 e))
      (w.drew.alloc (.cells (#[] ++ Builtin.zeroCells z.cells n ++ Builtin.zeroCells z.cells (grownCap w n 0 e - n)) e)) := by
  have hle : n ≤ n * i.bytes := Nat.le_mul_of_pos_right _ hb
  have h48 : ¬ (281474976710656 < Builtin.nextslicecap n 0 * i.bytes) := by
    have := growslice_fits hn (bytes := i.bytes) (by omega)
    omega
  have w1 : IntKind.i64.wrap (n : Int) = n := wrap_small (by omega)
  have g1 : ¬ ((n : Int) < 0) := by omega
  have g2 : ¬ (281474976710656 < (n : Int) * (i.bytes : Int)) := by
    have : ((n * i.bytes : Nat) : Int) ≤ 1099511627776 := by omega
    rw [Int.natCast_mul] at this
    omega
  have g7 : ¬ (n * i.size = 0) := Nat.pos_iff_ne_zero.1 (Nat.mul_pos hn hs)
  have g4 : ¬ (n = 0) := by omega
  unfold Builtin.append_
  simp only [ht0, ht1, h0, h1]
  rw [Sem.run_bind, run_und ht, Result.andThen_ok]
  simp only []
  rw [Sem.run_bind, show (sizeOf e).run P w = .ok i.size w by simp [sizeOf, run_info hi], Result.andThen_ok, Sem.run_bind, run_und hu, Result.andThen_ok]
  simp [asInt, asIntOf, zeroValue, hz, w1, g1, g2, g4, h48, Question.forced, newRow, grownCap, typeInfo, hi, Builtin.firstCells, g7]
  exact fun h => absurd h (by omega)

theorem appMade_ok (hm : MemR c m w) (hp : PcR c.ρ p) {t ty : TypeId} {ts : Array TypeId} {us : List TypeId} {xs : Array Value} {s x v : V} {S X : Value} (hts : ts.toList = t :: us) (hin : intSrc P us = true) (h0 : xs[0]? = some S) (h1 : xs[1]? = some X) (hs : VR c s S) (hx : VR c x X)
    (h : (appMade P t s x).gives c.ρ m p v m' q) : q = p ∧ EfOK P c m w m' v (Builtin.append_ ts ty xs) := by
  obtain ⟨ht0, u, k, ht1, hu⟩ := intSrc_ok hts hin
  cases s <;> try exact (M.gives_fail (s := "append of a made slice") h).elim
  rw [VR.nilSlice] at hs; subst hs
  rcases onInt_cases x (fun _ e => (natR e).thn fun n => appZ P t n) (M.fail "append of a made slice") with ⟨k', e, rfl, he⟩ | he
  rotate_left
  · exact (M.gives_fail (show (M.fail "append of a made slice" : M V).gives c.ρ m p v m' q from he ▸ h)).elim
  have h : ((natR e).thn fun n => appZ P t n).gives c.ρ m p v m' q := he ▸ h
  obtain ⟨n, p1, h2, h3⟩ := R.gives_thn h
  obtain ⟨h4, rfl⟩ := natR_gives hp h2
  obtain ⟨rfl, _⟩ := VR.int.1 hx
  rw [h4] at h1
  cases n with
  | zero => exact (M.gives_fail (s := "append of nothing made") h3).elim
  | succ n' =>
    unfold appZ at h3
    cases ha : elemSz P t with
    | none => simp only [ha] at h3; exact (M.gives_fail h3).elim
    | some a =>
      cases hb : elemOf P t with
      | none => simp only [ha, hb] at h3; exact (M.gives_fail h3).elim
      | some e' =>
        cases hc : zcells P e' a.1 (Nat.succ n') with
        | none => simp only [ha, hb, hc] at h3; exact (M.gives_fail h3).elim
        | some l =>
          simp only [ha, hb, hc] at h3
          obtain ⟨h5, h6⟩ := M.gives_if h3
          rw [ble_iff] at h5
          have h5 : (n' + 1) * a.2 ≤ 1099511627776 := h5
          obtain ⟨e2, i, z, ht, hi, hisz, hiby, hpos, hbpos, hz, hzs⟩ := elemSz_some ha
          have hee : e' = e2 := by
            have := elemOf_some hb
            rw [ht] at this
            simpa using this.symm
          subst hee
          rcases zcells_ok (c := c) hc with ⟨h7, _⟩ | ⟨_, h8, z', h9, h10⟩
          · exfalso
            have h7 : (n' + 1) * a.1 = 0 := h7
            have := Nat.mul_pos (Nat.succ_pos n') (hisz ▸ hpos)
            omega
          · have hzz : z' = z := by
              have e1 := h10 w
              have e3 : (zeroValue e').run P w = .ok z w := by simp [zeroValue, run_info hi, hz]
              rw [e3] at e1
              injection e1 with e1 _
              exact e1.symm
            subst hzz
            have hrun := run_append_made (ty := ty) (w := w) ht0 ht1 hu h0 h1 ht hi hz (Nat.succ_pos n') hpos hbpos (by rw [hiby]; exact h5)
            have hge : n' + 1 ≤ grownCap w (n' + 1) 0 e' := grownCap_ge w (n' + 1) 0 e'
            have hr := repl_ok h9 (n' + 1)
            have hlen : (Builtin.zeroCells z'.cells (n' + 1)).size = (n' + 1) * a.1 := by rw [size_zero, hzs, hisz]
            obtain ⟨rfl, c', h11, h12⟩ := growM_ok hm h6 (cs := #[] ++ Builtin.zeroCells z'.cells (n' + 1) ++ Builtin.zeroCells z'.cells (grownCap w (n' + 1) 0 e' - (n' + 1))) (e := e') hr (fun j y hy => row_front (olds := #[]) (by simpa [Builtin.zeroCells] using hy)) hge (by
              rw [Array.size_append, Array.size_append, hlen, size_zero, hzs, hisz]
              simp only [Array.size_empty, Nat.zero_add]
              rw [← Nat.add_mul]
              exact Nat.le_of_eq (by congr 1; omega))
            exact ⟨rfl, c', _, _, h11, hrun, h12⟩

theorem clear_ok (hm : MemR c m w) {t ty : TypeId} {ts : Array TypeId} {xs : Array Value} {x v : V} {X : Value} (hts : ts[0]? = some t) (h0 : xs[0]? = some X) (hx : VR c x X)
    (h : (clearM P t x).gives c.ρ m p v m' q) : q = p ∧ EfOK P c m w m' v (Builtin.clear_ ts ty xs) := by
  have hnil : VR c (V.tuple []) (.tuple #[]) := VR.tuple.2 ⟨#[], rfl, VRs.nil⟩
  unfold clearM at h
  cases ha : slcOf P t with
  | none => rw [ha] at h; exact (M.gives_fail h).elim
  | some a =>
    rw [ha] at h
    obtain ⟨hu, hsz⟩ := slcOf_some ha
    cases x <;> try exact (M.gives_fail (s := "clear") h).elim
    case nilSlice =>
      obtain ⟨rfl, rfl, rfl⟩ := M.gives_pure (show (M.pure (V.tuple [])).gives c.ρ m p v m' q from h)
      rw [VR.nilSlice] at hx; subst hx
      exact ⟨rfl, c, w, .tuple #[], Step.refl hm, by simp [Builtin.clear_, hts, h0, run_und hu], hnil⟩
    case eslice i z =>
      obtain ⟨rfl, rfl, rfl⟩ := M.gives_pure (show (M.pure (V.tuple [])).gives c.ρ m p v m' q from h)
      obtain ⟨_, o, cap, rfl, _⟩ := VR.eslice.1 hx
      exact ⟨rfl, c, w, .tuple #[], Step.refl hm, by simp [Builtin.clear_, hts, h0, run_und hu], hnil⟩
    case slice i o len cp =>
      obtain ⟨_, cap, _, _, rfl⟩ := VR.slice.1 hx
      have h : (clearN P a.1 a.2 i o len).gives c.ρ m p v m' q := h
      cases len with
      | zero =>
        obtain ⟨rfl, rfl, rfl⟩ := M.gives_pure (show (M.pure (V.tuple [])).gives c.ρ m p v m' q from h)
        exact ⟨rfl, c, w, .tuple #[], Step.refl hm, by simp [Builtin.clear_, hts, h0, run_und hu], hnil⟩
      | succ n' =>
        unfold clearN at h
        cases hc : zcells P a.1 a.2 (Nat.succ n') with
        | none => simp only [hc] at h; exact (M.gives_fail h).elim
        | some l =>
          simp only [hc] at h
          have h : (selB (Nat.beq a.2 0) (M.fail "clear") ((wrSome i o (repl (Nat.succ n') l)).bnd fun _ => M.pure (V.tuple []))).gives c.ρ m p v m' q := h
          cases hz0 : Nat.beq a.2 0 with
          | true => rw [hz0] at h; exact (M.gives_fail (show (M.fail "clear" : M V).gives c.ρ m p v m' q from h)).elim
          | false =>
          rw [hz0] at h
          obtain ⟨_, m1, p1, h5, h6⟩ := M.gives_bnd (show ((wrSome i o (repl (Nat.succ n') l)).bnd fun _ => M.pure (V.tuple [])).gives c.ρ m p v m' q from h)
          obtain ⟨rfl, rfl, rfl⟩ := M.gives_pure h6
          rcases zcells_ok (c := c) hc with ⟨h7, rfl⟩ | ⟨_, _, z', h9, h10⟩
          · exfalso
            have h7 : (n' + 1) * a.2 = 0 := h7
            have h8 := (beq_false _ _).1 hz0
            have := Nat.mul_pos (Nat.succ_pos n') (Nat.pos_of_ne_zero h8)
            omega
          · have hr := repl_ok h9 (n' + 1)
            obtain ⟨rfl, w', h11, h12⟩ := wrSome_ok (P := P) hm hr h5
            refine ⟨rfl, c, w', .tuple #[], h11, ?_, hnil⟩
            have h12 : (storeCells (c.ad i o) (Builtin.zeroCells z'.cells (n' + 1)).toList).run P w = .ok () w' := h12
            simp [Builtin.clear_, hts, h0, run_und hu, h10, h12]

theorem appendT_ok (hm : MemR c m w) (hp : PcR c.ρ p) {t ty : TypeId} {ts : Array TypeId} {us : List TypeId} {xs : Array Value} {s x v : V} {S X : Value} (hts : ts.toList = t :: us) (h0 : xs[0]? = some S) (h1 : xs[1]? = some X) (hs : VR c s S) (hx : VR c x X)
    (h : (appendT P t us s x).gives c.ρ m p v m' q) : q = p ∧ EfOK P c m w m' v (Builtin.append_ ts ty xs) := by
  have h : (selB (intSrc P us) (appMade P t s x) (appendP P t us s x)).gives c.ρ m p v m' q := h
  cases hin : intSrc P us with
  | true => rw [hin] at h; exact appMade_ok hm hp hts hin h0 h1 hs hx h
  | false => rw [hin] at h; exact appendP_ok hm hp hts h0 h1 hs hx h
end ops

end Go.Sy

/-
  What is proved here: what the evaluator writes into maps is what the model writes.
  Conditions: none.
-/
namespace Go.Sy

section ops
variable {P : Program} {c : Cx} {m m' : Mem} {w : World} {p q : Pc}

def World.putObj (w : World) (r : Nat) (o : Obj) : World := { w with heap := w.heap.setIfInBounds r o }

theorem run_setObj {r : Nat} {es : Array MapEntry} {k : Nat} {o : Obj} (h : w.heap[r]? = some (.map es k)) : (setObj r o).run P w = .ok () (World.putObj w r o) := by
  simp [setObj, Sem.run, h, World.putObj]

theorem putObj_same {r : Nat} {o : Obj} (h : r < w.heap.size) : (World.putObj w r o).heap[r]? = some o := by
  simp [World.putObj, h]
theorem putObj_other {r k : Nat} {o : Obj} (h : k ≠ r) : (World.putObj w r o).heap[k]? = w.heap[k]? := by
  simp [World.putObj, Array.getElem?_setIfInBounds]
  intro e; exact absurd e.symm h

theorem getMap_gives {i : Nat} {a : List (V × V × Nat) × Nat} (h : (getMap i).gives c.ρ m p a q) : q = p ∧ m.tr.get i = some (.map a.1 a.2 true) := by
  obtain ⟨es, kk, wr, hb, h1⟩ := onMapB_gives (show T.out c.ρ (onMapB (m.tr.get i) (fun es c' wr => selB wr (T.ret (⟨(es, c'), p⟩ : Rp (List (V × V × Nat) × Nat))) (.fail "no map that may be written")) (T.fail "no map that may be written")) = some ⟨a, q⟩ from h)
  cases wr with
  | false => simp [selB, T.out] at h1
  | true =>
    simp only [selB, T.out, Option.some.injEq, Rp.mk.injEq] at h1
    obtain ⟨rfl, rfl⟩ := h1
    exact ⟨rfl, hb⟩

/-- a map, written -/
theorem setMap_ok (hm : MemR c m w) {i : Nat} {es es1 : List (V × V × Nat)} {k k1 : Nat} {es1' : Array MapEntry} (hb : m.tr.get i = some (.map es k true)) (he : EsR c es1 es1'.toList) (h : (setMap i es1 k1).gives c.ρ m p () m' q) :
    q = p ∧ Step c m w c m' (World.putObj w (c.β i).1 (.map es1' k1)) ∧ ∀ r : Nat, r = (c.β i).1 → (setObj r (.map es1' k1)).run P w = .ok () (World.putObj w (c.β i).1 (.map es1' k1)) := by
  obtain ⟨rfl, rfl⟩ := putBlk_gives (show (putBlk i (.map es1 k1 true)).gives c.ρ m p () m' q from h)
  obtain ⟨hi, hblk⟩ := hm.blk i _ hb
  obtain ⟨es', h1, h2⟩ := hblk
  have hlt : (c.β i).1 < w.heap.size := (Array.getElem?_eq_some_iff.1 h1).1
  refine ⟨rfl, Step.put hm hb rfl ⟨es1', putObj_same hlt, he⟩ (by simp [World.putObj]) (fun k hk => putObj_other hk) rfl rfl rfl, ?_⟩
  rintro r rfl
  exact run_setObj h1

theorem EsR.push {es : List (V × V × Nat)} {es' : Array MapEntry} {k v : V} {K X : Value} {b : Nat} (he : EsR c es es'.toList) (hk : VR c k K) (hv : VR c v X) : EsR c (es ++ [(k, v, b)]) (es'.push ⟨K, X, b⟩).toList := by
  have hl := he.1
  refine ⟨by simp at hl ⊢; omega, fun n e hn => ?_⟩
  rcases Nat.lt_or_ge n es.length with h | h
  · rw [List.getElem?_append_left h] at hn
    obtain ⟨e', h1, h2⟩ := he.2 n e hn
    refine ⟨e', ?_, h2⟩
    have : n < es'.toList.length := (List.getElem?_eq_some_iff.1 h1).1
    rw [Array.toList_push, List.getElem?_append_left this]; exact h1
  · rw [List.getElem?_append_right h] at hn
    have h0 : n - es.length = 0 := by
      rcases Nat.eq_zero_or_pos (n - es.length) with h' | h'
      · exact h'
      · rw [List.getElem?_eq_none (by simp; omega)] at hn; simp at hn
    rw [h0] at hn
    simp at hn; subst hn
    refine ⟨⟨K, X, b⟩, ?_, hk, hv, rfl⟩
    rw [Array.toList_push, List.getElem?_append_right (by omega)]
    have : n - es'.toList.length = 0 := by omega
    rw [this]; rfl

theorem setEntry_get (k v : V) : ∀ (es : List (V × V × Nat)) (j n : Nat), (setEntry k v es j).length = es.length ∧ (setEntry k v es j)[n]? = es[n]?.map fun e => if n = j then (k, v, e.2.2) else e
  | [], j, n => by simp [show setEntry k v [] j = [] from rfl]
  | e :: es, 0, n => by
    rw [show setEntry k v (e :: es) 0 = (k, v, e.2.2) :: es from rfl]
    refine ⟨by simp, ?_⟩
    cases n with
    | zero => simp
    | succ n => simp
  | e :: es, j + 1, n => by
    rw [show setEntry k v (e :: es) (j + 1) = e :: setEntry k v es j from rfl]
    refine ⟨by simp [(setEntry_get k v es j 0).1], ?_⟩
    cases n with
    | zero => simp
    | succ n => simp [(setEntry_get k v es j n).2]

theorem setVal_get (v : V) : ∀ (es : List (V × V × Nat)) (j n : Nat), (setVal v es j).length = es.length ∧ (setVal v es j)[n]? = es[n]?.map fun e => if n = j then (e.1, v, e.2.2) else e
  | [], j, n => by simp [show setVal v [] j = [] from rfl]
  | e :: es, 0, n => by
    rw [show setVal v (e :: es) 0 = (e.1, v, e.2.2) :: es from rfl]
    refine ⟨by simp, ?_⟩
    cases n with
    | zero => simp
    | succ n => simp
  | e :: es, j + 1, n => by
    rw [show setVal v (e :: es) (j + 1) = e :: setVal v es j from rfl]
    refine ⟨by simp [(setVal_get v es j 0).1], ?_⟩
    cases n with
    | zero => simp
    | succ n => simp [(setVal_get v es j n).2]

theorem delEntry_eq : ∀ (es : List (V × V × Nat)) (j : Nat), delEntry es j = es.eraseIdx j
  | [], _ => rfl
  | _ :: _, 0 => rfl
  | e :: es, j + 1 => by rw [show delEntry (e :: es) (j + 1) = e :: delEntry es j from rfl, delEntry_eq es j]; rfl

theorem EsR.setEntry {es : List (V × V × Nat)} {es' : Array MapEntry} {k v : V} {K X : Value} (j : Nat) (he : EsR c es es'.toList) (hk : VR c k K) (hv : VR c v X) :
    EsR c (setEntry k v es j) (es'.modify j fun e => { e with key := K, val := X }).toList := by
  have hl := he.1
  refine ⟨by rw [(setEntry_get k v es j 0).1]; simpa using hl, fun n e hn => ?_⟩
  rw [(setEntry_get k v es j n).2, Option.map_eq_some_iff] at hn
  obtain ⟨e0, h0, rfl⟩ := hn
  obtain ⟨e', h1, h2, h3, h4⟩ := he.2 n e0 h0
  rw [Array.toList_modify, List.getElem?_modify, h1]
  by_cases hj : n = j
  · subst hj
    exact ⟨{ e' with key := K, val := X }, by simp, by simp; exact hk, by simp; exact hv, by simpa using h4⟩
  · exact ⟨e', by simp [Ne.symm hj], by simp [hj]; exact h2, by simp [hj]; exact h3, by simpa [hj] using h4⟩

theorem EsR.setVal {es : List (V × V × Nat)} {es' : Array MapEntry} {v : V} {X : Value} (j : Nat) (he : EsR c es es'.toList) (hv : VR c v X) :
    EsR c (setVal v es j) (es'.modify j fun e => { e with val := X }).toList := by
  have hl := he.1
  refine ⟨by rw [(setVal_get v es j 0).1]; simpa using hl, fun n e hn => ?_⟩
  rw [(setVal_get v es j n).2, Option.map_eq_some_iff] at hn
  obtain ⟨e0, h0, rfl⟩ := hn
  obtain ⟨e', h1, h2, h3, h4⟩ := he.2 n e0 h0
  rw [Array.toList_modify, List.getElem?_modify, h1]
  by_cases hj : n = j
  · subst hj
    exact ⟨{ e' with val := X }, by simp, by simp; exact h2, by simp; exact hv, by simpa using h4⟩
  · exact ⟨e', by simp [Ne.symm hj], by simp [hj]; exact h2, by simp [hj]; exact h3, by simpa [hj] using h4⟩

theorem EsR.del {es : List (V × V × Nat)} {es' : Array MapEntry} (j : Nat) (he : EsR c es es'.toList) : EsR c (delEntry es j) (es'.eraseIdxIfInBounds j).toList := by
  have hl := he.1
  have : (es'.eraseIdxIfInBounds j).toList = es'.toList.eraseIdx j := by simp
  rw [this, delEntry_eq]
  refine ⟨by simp only [List.length_eraseIdx, hl], fun n e hn => ?_⟩
  rw [List.getElem?_eraseIdx] at hn
  rw [List.getElem?_eraseIdx]
  split at hn
  · obtain ⟨e', h1, h2⟩ := he.2 n e hn
    exact ⟨e', by rw [if_pos (by assumption)]; exact h1, h2⟩
  · obtain ⟨e', h1, h2⟩ := he.2 (n + 1) e hn
    exact ⟨e', by rw [if_neg (by assumption)]; exact h1, h2⟩

/-- a map that may be written, and a search in it -/
theorem mapFind_ok (hm : MemR c m w) (hp : PcR c.ρ p) {kt : TypeId} {i : Nat} {k : V} {K : Value} (hk : VR c k K) (hpl : keyOK P kt = true) {es : List (V × V × Nat)} {kk : Nat} {r : Option (Nat × V)} (hb : m.tr.get i = some (.map es kk true))
    (h : (findKey P kt k es 0).gives c.ρ m p r q) : PcR c.ρ q ∧ ∃ (es' : Array MapEntry) (r' : Option (Nat × Value)), w.heap[(c.β i).1]? = some (.map es' kk) ∧ EsR c es es'.toList ∧ (Instr.findKey kt K es'.toList).run P w = .ok r' w ∧ FoundR (plainK P kt) es es'.toList K 0 r r' := by
  obtain ⟨_, es', h1, h2⟩ := hm.blk i _ hb
  obtain ⟨h3, r', h4, h5⟩ := findAll_ok hm hp hpl hk h2 h
  exact ⟨h3, es', r', h1, h2, h4, h5⟩

theorem run_stays {old new : Value} (h : Instr.sameBits 10000 old new = true) : (Instr.keyThatStays old new).run P w = .ok new w := by
  simp [Instr.keyThatStays, h]

theorem mapUpdate_ok (hm : MemR c m w) (hp : PcR c.ρ p) {t : TypeId} {mp k v : V} {MP K X : Value} (hmp : VR c mp MP) (hk : VR c k K) (hv : VR c v X) (h : (mapUpdateM P t mp k v).gives c.ρ m p () m' q) :
    PcR c.ρ q ∧ ∃ w', Step c m w c m' w' ∧ (Instr.mapUpdate t MP K X).run P w = .ok () w' := by
  unfold mapUpdateM at h
  cases ha : mapOf P t with
  | none => rw [ha] at h; exact (M.gives_fail h).elim
  | some a =>
    rw [ha] at h
    obtain ⟨hu, hpl⟩ := mapOf_some ha
    obtain ⟨hfit, h⟩ := M.gives_if (show (selB (keyFit P a.1 k) (onMap mp (fun i => (getMap i).thn fun es => (findKey P a.1 k es.1 0).thn fun r => updFound (plainK P a.1) i es.1 es.2 k v r) (M.fail "map update")) (M.fail "map update the key")).gives c.ρ m p () m' q from h)
    obtain ⟨i, rfl, h1⟩ := onMapM_gives (s := "map update") h
    obtain ⟨es, p1, h2, h3⟩ := R.gives_thn h1
    obtain ⟨rfl, hb⟩ := getMap_gives h2
    obtain ⟨r, p2, h4, h5⟩ := R.gives_thn h3
    obtain ⟨hp2, es', r', h6, h7, h8, h9⟩ := mapFind_ok hm hp hk hpl hb h4
    obtain ⟨_, rfl⟩ := VR.map.1 hmp
    have hg : (getObj (c.β i).1).run P w = .ok (.map es' es.2) w := run_getObj h6
    cases r with
    | none =>
      have h9 : r' = none := h9
      subst h9
      obtain ⟨rfl, h10, h11⟩ := setMap_ok (P := P) hm hb (h7.push hk hv (b := es.2)) (show (setMap i (es.1 ++ [(k, v, es.2)]) (Nat.succ es.2)).gives c.ρ m p2 () m' q from h5)
      exact ⟨hp2, _, h10, by simpa [Instr.mapUpdate, run_und hu, hg, checkKey_ok hpl hk hfit, h8] using h11 _ rfl⟩
    | some b =>
      obtain ⟨j, e, e', rfl, h12, h13, rfl, h14⟩ := h9
      obtain ⟨hpk, h5⟩ := M.gives_if (show (selB (plainK P a.1) (setMap i (setEntry k v es.1 (0 + j)) es.2) (M.fail "map update there already")).gives c.ρ m p2 () m' q from h5)
      have h14 := h14 hpk
      obtain ⟨rfl, h10, h11⟩ := setMap_ok (P := P) hm hb (h7.setEntry (0 + j) hk hv) h5
      have h13 : es'[j]? = some e' := by simpa using h13
      refine ⟨hp2, _, h10, ?_⟩
      rw [Nat.zero_add] at h11
      simpa [Instr.mapUpdate, run_und hu, hg, checkKey_ok hpl hk hfit, h8, h13, run_stays h14] using h11 _ rfl

theorem sel_out {α : Type} {ρ : Nat → Int} {b : Bool} {x : T α} {s : String} {r : α} (h : (selB b x (.fail s)).out ρ = some r) : b = true ∧ x.out ρ = some r := by
  cases b with
  | true => exact ⟨rfl, h⟩
  | false => simp [selB, T.out] at h

theorem noEnts_ok (hm : MemR c m w) {i : Nat} (h : noEnts (m.tr.get i) = true) : c.has i ∧ ∃ k, w.heap[(c.β i).1]? = some (.map #[] k) := by
  cases hb : m.tr.get i with
  | none => rw [hb] at h; exact (Bool.false_ne_true h).elim
  | some b =>
    rw [hb] at h
    cases b <;> try exact (Bool.false_ne_true h).elim
    case map es k wr =>
      cases es with
      | cons _ _ => exact (Bool.false_ne_true h).elim
      | nil =>
        obtain ⟨h1, es', h2, h3⟩ := hm.blk i _ hb
        obtain ⟨l⟩ := es'
        cases l with
        | nil => exact ⟨h1, _, h2⟩
        | cons a r => exact absurd h3.1 (by simp)
    case pm es wr =>
      cases es with
      | cons _ _ => exact (Bool.false_ne_true h).elim
      | nil =>
        obtain ⟨h1, es', k, h2, l, h3, h4⟩ := hm.blk i _ hb
        cases l with
        | cons _ _ => exact h4.elim
        | nil =>
          obtain ⟨l⟩ := es'
          cases l with
          | nil => exact ⟨h1, _, h2⟩
          | cons a r => exact absurd h3.length_eq (by simp)

theorem rangeZ_ok (hm : MemR c m w) {t : TypeId} {x v : V} {X : Value} (hx : VR c x X) (h : (rangeZ P t x).gives c.ρ m p v m' q) : q = p ∧ EfOK P c m w m' v (Instr.range t X) := by
  cases x <;> try exact (M.gives_fail (s := "range") h).elim
  case str l =>
    have h : (selB (isStrT P t) ((newBlk (.siter (.n 0 :: l) 0)).bnd (fun b => M.pure (V.ptr b 0)) m p) (.fail "range") : T (Rs V)).out c.ρ = some ⟨v, m', q⟩ := h
    obtain ⟨h1, h2⟩ := sel_out h
    have hu := isStrT_iff h1
    obtain ⟨b, m1, p1, h5, h6⟩ := M.gives_bnd (show ((newBlk (.siter (.n 0 :: l) 0)).bnd fun b => M.pure (V.ptr b 0)).gives c.ρ m p v m' q from h2)
    obtain ⟨rfl, rfl, rfl⟩ := newBlk_gives h5
    obtain ⟨rfl, rfl, rfl⟩ := M.gives_pure h6
    obtain ⟨s, rfl, hs⟩ := VR.str.1 hx
    have s1 := Step.new hm (b := .siter (.n 0 :: l) 0) (o := .stringIter s 0) ⟨rfl, .inr ⟨_, _, _, rfl, heap_push_new w _, hs.mono (c.le_addB w)⟩⟩
    refine ⟨rfl, c.addB w, _, .pointer (some ⟨w.heap.size, 0, none⟩), s1, ?_, ?_⟩
    · simp [Instr.range, run_und hu]
    · rw [← hm.nb]
      refine VR.ptr.2 ⟨.inr rfl, ?_⟩
      unfold Cx.ad
      rw [Cx.addB_new]
  case map i =>
    have h : (selB (andB (isMapT P t) (noEnts (m.tr.get i))) ((newBlk (.siter [] i)).bnd (fun b => M.pure (V.ptr b 0)) m p) (.fail "range") : T (Rs V)).out c.ρ = some ⟨v, m', q⟩ := h
    obtain ⟨h1, h2⟩ := sel_out h
    rw [andB_iff] at h1
    obtain ⟨h3, h4⟩ := h1
    obtain ⟨b, m1, p1, h5, h6⟩ := M.gives_bnd (show ((newBlk (.siter [] i)).bnd fun b => M.pure (V.ptr b 0)).gives c.ρ m p v m' q from h2)
    obtain ⟨rfl, rfl, rfl⟩ := newBlk_gives h5
    obtain ⟨rfl, rfl, rfl⟩ := M.gives_pure h6
    obtain ⟨h7, k, h8⟩ := noEnts_ok hm h4
    obtain ⟨_, rfl⟩ := VR.map.1 hx
    obtain ⟨ku, eu, hu⟩ : ∃ ku eu, P.underlying t = some (.map ku eu) := by
      unfold isMapT at h3
      split at h3
      · rename_i a b h9; exact ⟨a, b, h9⟩
      · simp at h3
    have s1 := Step.new hm (b := .siter [] i) (o := .mapIter (some (c.β i).1) k #[] k) ⟨rfl, .inl ⟨rfl, _, _, _, heap_push_new w _, (VR.map.2 ⟨h7, rfl⟩ : VR c (.map i) (.map (some (c.β i).1))).mono (c.le_addB w)⟩⟩
    refine ⟨rfl, c.addB w, _, .pointer (some ⟨w.heap.size, 0, none⟩), s1, ?_, ?_⟩
    · simp [Instr.range, run_und hu, run_getObj h8]
    · rw [← hm.nb]
      refine VR.ptr.2 ⟨.inr rfl, ?_⟩
      unfold Cx.ad
      rw [Cx.addB_new]

theorem decode_ascii {s : ByteArray} {i : Nat} {b : UInt8} (h : s.data.toList[i]? = some b) (hb : b.toNat < 128) : Utf8.decode s i = (b.toNat, 1) := by
  have h2 : s.get! (i + 0) = b := by
    obtain ⟨d⟩ := s
    have h3 : d[i]? = some b := by rw [← Array.getElem?_toList]; exact h
    show d[i + 0]! = b
    rw [Nat.add_zero, getElem!_def, h3]
  unfold Utf8.decode
  simp only [h2]
  simp [hb]

theorem nextS_ok (hm : MemR c m w) (hp : PcR c.ρ p) {ty : TypeId} {b : Nat} {v : V} {X : Value} (hx : VR c (.ptr b 0) X) (h : (nextS b).gives c.ρ m p v m' q) : q = p ∧ EfOK P c m w m' v (Instr.next X true ty) := by
  obtain ⟨_, rfl⟩ := VR.ptr.1 hx
  have h : (onSi (m.tr.get b) (fun l pos => (List.rec (M.fail "next") (fun _ r _ => nextE b l pos (nth pos r)) l : M V) m p) (.fail "next") : T (Rs V)).out c.ρ = some ⟨v, m', q⟩ := h
  cases hb : m.tr.get b with
  | none => rw [hb] at h; simp [onSi, T.out] at h
  | some blk =>
    rw [hb] at h
    cases blk <;> try (simp [onSi, T.out] at h; done)
    case siter l pos =>
      cases l with
      | nil => exact (M.gives_fail (m := m) (p := p) (s := "next") h).elim
      | cons d r =>
        have h : (nextE b (d :: r) pos (nth pos r)).gives c.ρ m p v m' q := h
        obtain ⟨g1, g0, ⟨hl, _⟩ | ⟨e0, r0, z, hl, h1, h2⟩⟩ := hm.blk b _ hb
        · cases hl
        · cases hl
          have hg : (getObj (c.β b).1).run P w = .ok (.stringIter z pos) w := by simp [getObj, Sem.run, h1]
          have hsz : z.size = r.length := by rw [← h2.length]; rfl
          rw [nth_eq] at h
          cases hn : r[pos]? with
          | none =>
            rw [hn] at h
            obtain ⟨rfl, rfl, rfl⟩ := M.gives_pure (show (M.pure (V.tuple [.bool (.lit false)])).gives c.ρ m p v m' q from h)
            have hle : ¬ pos < z.size := by rw [hsz]; have := List.getElem?_eq_none_iff.1 hn; omega
            refine ⟨rfl, c, w, .tuple #[.bool false], Step.refl hm, ?_, VR.tuple.2 ⟨_, rfl, VRs.cons (VR.bool.2 rfl) VRs.nil⟩⟩
            simp [Instr.next, Cx.ad, g0, hg, hle]
          | some e =>
            rw [hn] at h
            obtain ⟨_, p1, h3, h4⟩ := R.gives_thn (show ((mustR (.lt e (.n 128))).thn fun _ => (lenN pos).thn fun iv => (putBlk b (.siter (d :: r) (Nat.succ pos))).bnd fun _ => M.pure (V.tuple [.bool (.lit true), iv, .int .i32 e])).gives c.ρ m p v m' q from h)
            obtain ⟨h5, rfl⟩ := mustR_gives hp h3
            obtain ⟨iv, p2, h6, h7⟩ := R.gives_thn h4
            obtain ⟨rfl, hiv⟩ := lenN_ok h6
            obtain ⟨_, m1, p3, h8, h9⟩ := M.gives_bnd h7
            obtain ⟨rfl, rfl⟩ := putBlk_gives h8
            obtain ⟨rfl, rfl, rfl⟩ := M.gives_pure h9
            obtain ⟨x, hx1, hx2⟩ := h2.get hn
            have h5 : e.den c.ρ < 128 := of_decide_eq_true h5
            have hb1 : x.toNat < 128 := by omega
            have hlt : pos < z.size := by rw [hsz]; exact (List.getElem?_eq_some_iff.1 hn).1
            have hdec := decode_ascii hx1 hb1
            have hlt' : (c.β b).1 < w.heap.size := (Array.getElem?_eq_some_iff.1 h1).1
            have s1 : Step c m w c ⟨m.tr.set b (.siter (d :: r) (Nat.succ pos)), m.nb, m.tok, m.nt⟩ (World.putObj w (c.β b).1 (.stringIter z (pos + 1))) :=
              Step.put hm hb rfl ⟨g0, .inr ⟨_, _, _, rfl, putObj_same hlt', h2⟩⟩ (by simp [World.putObj]) (fun k hk => putObj_other hk) rfl rfl rfl
            refine ⟨rfl, c, _, .tuple #[.bool true, goInt pos, .int .i32 (x.toNat : Int)], s1, ?_, VR.tuple.2 ⟨_, rfl, VRs.cons (VR.bool.2 rfl) (VRs.cons hiv (VRs.cons (VR.int.2 ⟨by rw [hx2], ?_, ?_⟩) VRs.nil))⟩⟩
            · have hset : (setObj (c.β b).1 (.stringIter z (pos + 1))).run P w = .ok () (World.putObj w (c.β b).1 (.stringIter z (pos + 1))) := by simp [setObj, Sem.run, h1, World.putObj]
              simp [Instr.next, Cx.ad, g0, hg, hlt, hdec, hset]
            · rw [hx2]; have : kMin .i32 ≤ 0 := by decide
              omega
            · rw [hx2]; have : (127 : Int) ≤ kMax .i32 := by decide
              omega

theorem next_ok (hm : MemR c m w) (hp : PcR c.ρ p) {ty : TypeId} {s : Bool} {x v : V} {X : Value} (hx : VR c x X) (h : (nextM s x).gives c.ρ m p v m' q) : q = p ∧ EfOK P c m w m' v (Instr.next X s ty) := by
  cases x <;> try exact (M.gives_fail (s := "next") h).elim
  case ptr b o =>
    cases hc : andB (Nat.beq o 0) s with
    | true =>
      rw [andB_iff] at hc
      obtain ⟨h3, rfl⟩ := hc
      rw [beq_iff] at h3; subst h3
      exact nextS_ok hm hp hx h
    | false =>
    have h : (selB (andB (Nat.beq o 0) s) (nextS b m p) (selB (andB (Nat.beq o 0) (notB s)) (Option.rec (T.fail "next") (fun i => selB (noEnts (m.tr.get i)) (.ret ⟨.tuple [.bool (.lit false)], m, p⟩) (.fail "next entries")) (iterOf (m.tr.get b))) (.fail "next")) : T (Rs V)).out c.ρ = some ⟨v, m', q⟩ := h
    rw [hc] at h
    have h : (selB (andB (Nat.beq o 0) (notB s)) (Option.rec (T.fail "next") (fun i => selB (noEnts (m.tr.get i)) (.ret ⟨.tuple [.bool (.lit false)], m, p⟩) (.fail "next entries")) (iterOf (m.tr.get b))) (.fail "next") : T (Rs V)).out c.ρ = some ⟨v, m', q⟩ := h
    obtain ⟨h1, h2⟩ := sel_out h
    rw [andB_iff] at h1
    obtain ⟨h3, h4⟩ := h1
    rw [beq_iff] at h3; subst h3
    cases s with
    | true => exact (Bool.false_ne_true h4).elim
    | false =>
      cases hb : m.tr.get b with
      | none => rw [hb] at h2; simp [iterOf, T.out] at h2
      | some blk =>
        rw [hb] at h2
        cases blk <;> try (simp [iterOf, T.out] at h2; done)
        case siter l i =>
          cases l with
          | cons _ _ => simp [iterOf, T.out] at h2
          | nil =>
          obtain ⟨h5, h6⟩ := sel_out (show (selB (noEnts (m.tr.get i)) (.ret ⟨.tuple [.bool (.lit false)], m, p⟩) (.fail "next entries") : T (Rs V)).out c.ρ = some ⟨v, m', q⟩ from h2)
          simp only [T.out, Option.some.injEq, Rs.mk.injEq] at h6
          obtain ⟨rfl, rfl, rfl⟩ := h6
          obtain ⟨h7, k, h8⟩ := noEnts_ok hm h5
          obtain ⟨g1, g0, ⟨_, b', since, last, g2, g3⟩ | ⟨_, _, _, hl, _⟩⟩ := hm.blk b _ hb
          rotate_left
          · cases hl
          obtain ⟨_, g4⟩ := VR.map.1 g3
          injection g4 with g4
          injection g4 with g4
          subst g4
          obtain ⟨_, rfl⟩ := VR.ptr.1 hx
          refine ⟨rfl, c, w, .tuple #[.bool false], Step.refl hm, ?_, VR.tuple.2 ⟨_, rfl, VRs.cons (VR.bool.2 rfl) VRs.nil⟩⟩
          have hg : (getObj (c.β b).1).run P w = .ok (.mapIter (some (c.β i).1) since #[] last) w := by simp [getObj, Sem.run, g2]
          simp [Instr.next, Cx.ad, g0, hg, run_getObj h8, Question.forced]

theorem delete_ok (hm : MemR c m w) (hp : PcR c.ρ p) {t ty : TypeId} {ts : Array TypeId} {xs : Array Value} {mp k v : V} {MP K : Value} (hts : ts[0]? = some t) (h0 : xs[0]? = some MP) (h1' : xs[1]? = some K) (hmp : VR c mp MP) (hk : VR c k K)
    (h : (deleteM P t mp k).gives c.ρ m p v m' q) : PcR c.ρ q ∧ EfOK P c m w m' v (Builtin.delete_ ts ty xs) := by
  unfold deleteM at h
  cases ha : mapOf P t with
  | none => rw [ha] at h; exact (M.gives_fail h).elim
  | some a =>
    rw [ha] at h
    obtain ⟨hu, hpl⟩ := mapOf_some ha
    obtain ⟨hfit, hd⟩ := M.gives_if (show (selB (keyFit P a.1 k) (V.rec (motive_1 := fun _ => M V) (motive_2 := fun _ => Unit) (fun _ => M.fail "delete") (fun _ _ => M.fail "delete") (fun _ => M.fail "delete") (M.fail "delete") (fun _ _ => M.fail "delete") (M.fail "delete") (fun _ _ _ _ => M.fail "delete") (M.pure (.tuple [])) (fun i => (getMap i).thn fun es => (findKey P a.1 k es.1 0).thn fun r => delFound i es.1 es.2 r) (fun _ _ _ _ _ => M.fail "delete") (M.fail "delete") (fun _ _ _ => M.fail "delete") (M.fail "delete") (fun _ _ => M.fail "delete") (fun _ _ => M.fail "delete") (M.fail "delete") (fun _ _ _ => M.fail "delete") (fun _ _ _ _ => M.fail "delete") (fun _ _ => M.fail "delete") (fun _ => M.fail "delete") Unit.unit (fun _ _ _ _ => Unit.unit) mp) (M.fail "delete the key")).gives c.ρ m p v m' q from h)
    clear h
    have h := hd
    clear hd
    have hnil : VR c (V.tuple []) (.tuple #[]) := VR.tuple.2 ⟨#[], rfl, VRs.nil⟩
    cases mp <;> try exact (M.gives_fail (s := "delete") h).elim
    case nilMap =>
      obtain ⟨rfl, rfl, rfl⟩ := M.gives_pure (show (M.pure (V.tuple [])).gives c.ρ m p v m' q from h)
      rw [VR.nilMap] at hmp; subst hmp
      exact ⟨hp, c, w, .tuple #[], Step.refl hm, by simp [Builtin.delete_, hts, h0, h1', run_und hu, checkKey_ok hpl hk hfit], hnil⟩
    case map i =>
      have h1 : ((getMap i).thn fun es => (findKey P a.1 k es.1 0).thn fun r => delFound i es.1 es.2 r).gives c.ρ m p v m' q := h
      obtain ⟨es, p1, h2, h3⟩ := R.gives_thn h1
      obtain ⟨rfl, hb⟩ := getMap_gives h2
      obtain ⟨r, p2, h4, h5⟩ := R.gives_thn h3
      obtain ⟨hp2, es', r', h6, h7, h8, h9⟩ := mapFind_ok hm hp hk hpl hb h4
      obtain ⟨_, rfl⟩ := VR.map.1 hmp
      have hg : (getObj (c.β i).1).run P w = .ok (.map es' es.2) w := run_getObj h6
      have hlt : (c.β i).1 < w.heap.size := (Array.getElem?_eq_some_iff.1 h6).1
      cases r with
      | none =>
        have h9 : r' = none := h9
        subst h9
        obtain ⟨rfl, rfl, rfl⟩ := M.gives_pure (show (M.pure (V.tuple [])).gives c.ρ m p2 v m' q from h5)
        have hself : World.putObj w (c.β i).1 (.map es' es.2) = w := by
          unfold World.putObj
          congr 1
          apply Array.ext_getElem?
          intro j
          rw [Array.getElem?_setIfInBounds]
          split
          · rename_i e; subst e; exact h6.symm
          · rfl
        have hrun : (setObj (c.β i).1 (.map es' es.2)).run P w = .ok () w := by rw [run_setObj h6, hself]
        exact ⟨hp2, c, w, .tuple #[], Step.refl hm, by simp [Builtin.delete_, hts, h0, h1', run_und hu, checkKey_ok hpl hk hfit, hg, h8, hrun], hnil⟩
      | some b =>
        obtain ⟨j, e, e', rfl, h12, h13, rfl, h14⟩ := h9
        obtain ⟨_, m1, p3, h15, h16⟩ := M.gives_bnd (show ((setMap i (delEntry es.1 (0 + j)) es.2).bnd fun _ => M.pure (V.tuple [])).gives c.ρ m p2 v m' q from h5)
        obtain ⟨rfl, rfl, rfl⟩ := M.gives_pure h16
        obtain ⟨rfl, h10, h11⟩ := setMap_ok (P := P) hm hb (h7.del (0 + j)) h15
        rw [Nat.zero_add] at h10 h11
        exact ⟨hp2, c, _, .tuple #[], h10, by simp [Builtin.delete_, hts, h0, h1', run_und hu, checkKey_ok hpl hk hfit, hg, h8, h11 _ rfl], hnil⟩

theorem bornAt_ok {es : List (V × V × Nat)} {es' : List MapEntry} {j : Nat} {e : V × V × Nat} {e' : MapEntry} (he : EsR c es es') (h : es[j]? = some e) (h' : es'[j]? = some e') : bornAt es j = e'.born := by
  obtain ⟨e1, h1, _, _, h2⟩ := he.2 j e h
  rw [h'] at h1; simp at h1; subst h1
  unfold bornAt
  rw [nth_eq, h]; exact h2.symm

theorem mapEntry_ok (hm : MemR c m w) (hp : PcR c.ρ p) {t : TypeId} {mp k v : V} {MP K : Value} (hmp : VR c mp MP) (hk : VR c k K) (h : (mapEntryM P t mp k).gives c.ρ m p v m' q) :
    PcR c.ρ q ∧ EfOK P c m w m' v (Instr.mapEntry t MP K) := by
  unfold mapEntryM at h
  cases ha : mapOf P t with
  | none => rw [ha] at h; exact (M.gives_fail h).elim
  | some a =>
    rw [ha] at h
    obtain ⟨hu, hpl⟩ := mapOf_some ha
    obtain ⟨hfit, h⟩ := M.gives_if (show (selB (keyFit P a.1 k) (onMap mp (fun i => (getMap i).thn fun es => (findKey P a.1 k es.1 0).thn fun r => entFound (plainK P a.1) P a.2 i es.1 es.2 k r) (M.fail "map entry")) (M.fail "map entry the key")).gives c.ρ m p v m' q from h)
    obtain ⟨i, rfl, h1⟩ := onMapM_gives (s := "map entry") h
    obtain ⟨es, p1, h2, h3⟩ := R.gives_thn h1
    obtain ⟨rfl, hb⟩ := getMap_gives h2
    obtain ⟨r, p2, h4, h5⟩ := R.gives_thn h3
    obtain ⟨hp2, es', r', h6, h7, h8, h9⟩ := mapFind_ok hm hp hk hpl hb h4
    obtain ⟨_, rfl⟩ := VR.map.1 hmp
    have hg : (getObj (c.β i).1).run P w = .ok (.map es' es.2) w := run_getObj h6
    cases r with
    | none =>
      have h9 : r' = none := h9
      subst h9
      obtain ⟨z, p3, h10, h11⟩ := R.gives_thn (show ((R.opt "zero" (zeroOf P a.2)).thn fun z => (setMap i (es.1 ++ [(k, z, es.2)]) (Nat.succ es.2)).bnd fun _ => (lenN es.2).thn fun n => M.pure (V.tuple [z, n])).gives c.ρ m p2 v m' q from h5)
      obtain ⟨h12, rfl⟩ := R.gives_opt h10
      obtain ⟨i', zv, _, _, h13, h14⟩ := zeroOf_ok h12
      obtain ⟨_, m1, p4, h15, h16⟩ := M.gives_bnd h11
      obtain ⟨n, p5, h17, h18⟩ := R.gives_thn h16
      obtain ⟨rfl, rfl, rfl⟩ := M.gives_pure h18
      obtain ⟨rfl, h19⟩ := lenN_ok h17
      obtain ⟨rfl, h20, h21⟩ := setMap_ok (P := P) hm hb (h7.push hk (h13 c) (b := es.2)) h15
      exact ⟨hp2, c, _, .tuple #[zv, goInt es.2], h20, by simp [Instr.mapEntry, run_und hu, hg, checkKey_ok hpl hk hfit, h8, h14, h21 _ rfl], VR.tuple.2 ⟨_, rfl, VRs.cons (h13 c) (VRs.cons h19 VRs.nil)⟩⟩
    | some b =>
      obtain ⟨x, hx, hxv⟩ := h9.val h7
      obtain ⟨j, e, e', rfl, h12, h13, rfl, h14⟩ := h9
      have hxe : x = e'.val := by simpa using hx.symm
      subst hxe
      obtain ⟨hpk, h5⟩ := M.gives_if (show (selB (plainK P a.1) ((setMap i (setEntry k e.2.1 es.1 (0 + j)) es.2).bnd fun _ => (lenN (bornAt es.1 (0 + j))).thn fun n => M.pure (V.tuple [e.2.1, n])) (M.fail "map entry there already")).gives c.ρ m p2 v m' q from h5)
      have h14 := h14 hpk
      obtain ⟨_, m1, p4, h15, h16⟩ := M.gives_bnd h5
      obtain ⟨n, p5, h17, h18⟩ := R.gives_thn h16
      obtain ⟨rfl, rfl, rfl⟩ := M.gives_pure h18
      obtain ⟨rfl, h19⟩ := lenN_ok h17
      rw [Nat.zero_add] at h15 h19
      rw [bornAt_ok h7 h12 h13] at h19
      have h13' : es'[j]? = some e' := by simpa using h13
      have hmod : (es'.modify j fun e => { e with key := K, val := e'.val }) = es'.modify j fun e => { e with key := K } := by
        apply Array.ext_getElem?
        intro n
        simp only [Array.getElem?_modify]
        split
        · rename_i hn; subst hn; rw [h13']; rfl
        · rfl
      obtain ⟨rfl, h20, h21⟩ := setMap_ok (P := P) hm hb (h7.setEntry j hk hxv) h15
      rw [hmod] at h20 h21
      exact ⟨hp2, c, _, .tuple #[e'.val, goInt e'.born], h20, by simp [Instr.mapEntry, run_und hu, hg, checkKey_ok hpl hk hfit, h8, h13', run_stays h14, h21 _ rfl], VR.tuple.2 ⟨_, rfl, VRs.cons hxv (VRs.cons h19 VRs.nil)⟩⟩

theorem findBorn_ok {b : Int} : ∀ {es : List (V × V × Nat)} {es' : List MapEntry} {n j : Nat}, EsR c es es' → findBorn b es n = some j → ∃ k, j = n + k ∧ es'.findIdx? (fun e => (e.born : Int) == b) = some k
  | [], es', n, j, _, h => by
    have h : none = some j := h
    simp at h
  | e :: es, es', n, j, he, h => by
    cases es' with
    | nil => exact absurd he.1 (by simp)
    | cons e' es' =>
      obtain ⟨e1, h1, _, _, h2⟩ := he.2 0 e (by simp)
      simp at h1; subst h1
      have he' : EsR c es es' := ⟨by simpa using he.1, fun j u hu => by simpa using he.2 (j + 1) u (by simpa using hu)⟩
      have h : selB (eqZ (.ofNat e.2.2) b) (some n) (findBorn b es (Nat.succ n)) = some j := h
      rw [List.findIdx?_cons]
      cases hc : eqZ (.ofNat e.2.2) b with
      | true =>
        rw [hc] at h
        have h : some n = some j := h
        simp at h; subst h
        rw [eqZ_iff] at hc
        have : ((e'.born : Int) == b) = true := by rw [h2, ← hc]; simp
        exact ⟨0, rfl, by simp [this]⟩
      | false =>
        rw [hc] at h
        obtain ⟨k, rfl, h3⟩ := findBorn_ok he' (show findBorn b es (Nat.succ n) = some j from h)
        have hne : ¬ ((Int.ofNat e.2.2) = b) := fun e' => by rw [(eqZ_iff _ _).2 e'] at hc; simp at hc
        have : ((e'.born : Int) == b) = false := by rw [h2]; simpa using hne
        exact ⟨k + 1, by omega, by simp [this, h3]⟩

theorem entryStore_ok (hm : MemR c m w) (hp : PcR c.ρ p) {t : TypeId} {mp st v : V} {MP S X : Value} (hmp : VR c mp MP) (hs : VR c st S) (hv : VR c v X) (h : (entryStoreM mp st v).gives c.ρ m p () m' q) :
    q = p ∧ ∃ w', Step c m w c m' w' ∧ (Instr.entryStore t MP S X).run P w = .ok () w' := by
  obtain ⟨i, rfl, h1⟩ := onMapM_gives (s := "entry") (show (onMap mp (fun i => onInt st (fun _ e => (litR e).thn fun b => (getMap i).thn fun es => entStore i es.1 es.2 v (findBorn b es.1 0)) (M.fail "entry")) (M.fail "entry")).gives c.ρ m p () m' q from h)
  obtain ⟨k, e, rfl, h2⟩ := onIntM_gives h1
  obtain ⟨b, p1, h3, h4⟩ := R.gives_thn h2
  obtain ⟨h5, rfl⟩ := litR_gives hp h3
  obtain ⟨es, p2, h6, h7⟩ := R.gives_thn h4
  obtain ⟨rfl, hb⟩ := getMap_gives h6
  obtain ⟨_, rfl⟩ := VR.map.1 hmp
  obtain ⟨rfl, _⟩ := VR.int.1 hs
  obtain ⟨_, es', h8, h9⟩ := hm.blk i _ hb
  have hg : (getObj (c.β i).1).run P w = .ok (.map es' es.2) w := run_getObj h8
  cases hf : findBorn b es.1 0 with
  | none => rw [hf] at h7; exact (M.gives_fail h7).elim
  | some j =>
    rw [hf] at h7
    obtain ⟨k', rfl, h10⟩ := findBorn_ok h9 hf
    obtain ⟨rfl, h11, h12⟩ := setMap_ok (P := P) hm hb (h9.setVal (0 + k') hv) (show (setMap i (setVal v es.1 (0 + k')) es.2).gives c.ρ m p2 () m' q from h7)
    rw [Nat.zero_add] at h11 h12
    refine ⟨rfl, _, h11, ?_⟩
    have h10' : es'.findIdx? (fun e => (e.born : Int) == b) = some k' := by
      rcases es' with ⟨l⟩
      simpa using h10
    simp [Instr.entryStore, hg, asInt, asIntOf, h5, h10', h12 _ rfl]
end ops

end Go.Sy

/-
  What is proved here: the evaluator's slice of a string's bytes is that of the model.
  Conditions: none.
-/
namespace Go.Sy

/-- a string's bytes, and zeros behind them -/
def byteCells (s : ByteArray) (cap : Nat) : Array Value := s.data.map (fun b : UInt8 => Value.int .u8 b.toNat) ++ Array.replicate (cap - s.size) (Value.int .u8 0)

section ops
variable {P : Program} {c : Cx} {m m' : Mem} {w : World} {p q : Pc}

theorem freeze_alloc (cs : Array Value) (e : TypeId) : (w.alloc (.cells cs e)).freeze ⟨w.heap.size, cs.size, none⟩ 1 = w.alloc (.cells cs e (cs.size, cs.size + 1)) := by
  unfold World.freeze
  rw [if_neg (by decide)]
  have : (w.alloc (.cells cs e)).heap = w.heap.push (.cells cs e) := rfl
  unfold World.alloc
  congr 1
  apply Array.ext_getElem?
  intro j
  rw [Array.getElem?_modify, Array.getElem?_push, Array.getElem?_push]
  by_cases h : j = w.heap.size
  · subst h; simp
  · have h' : ¬ (w.heap.size = j) := fun e => h e.symm
    simp [h, h']

theorem bytesR_gives {dst : TypeId} {x : V} {ρ : Nat → Int} {bs : Blk × Shp} (h : (bytesR P dst x).gives ρ m p bs q) : ∃ l, bs = (.cells (l.map (.int .u8)) true false none, .sliceU (lenL l)) := by
  unfold bytesR at h
  cases ha : slcOf P dst with
  | none => rw [ha] at h; exact (R.gives_fail h).elim
  | some a =>
    rw [ha] at h
    obtain ⟨_, h2⟩ := R.gives_if (show (selB (andB (isByteT P a.1) (Nat.beq a.2 1)) _ (R.fail "convert")).gives ρ m p bs q from h)
    obtain ⟨l, _, h4⟩ := onStr_gives h2
    obtain ⟨rfl, _⟩ := R.gives_pure h4
    exact ⟨l, rfl⟩

theorem bytesR_ok {src dst : TypeId} {x : V} {X : Value} {bs : Blk × Shp} (hx : VR c x X) (hts : toSlice P src dst = true) (h : (bytesR P dst x).gives c.ρ m p bs q) :
    ∃ ob z, (convert src dst X).run P w = .ok z (w.drew.alloc ob) ∧ NewR c w.drew ob bs z := by
  have hs : isStrT P src = true := by
    unfold toSlice at hts
    rw [Bool.and_eq_true] at hts; exact hts.1
  unfold bytesR at h
  cases ha : slcOf P dst with
  | none => rw [ha] at h; exact (R.gives_fail h).elim
  | some a =>
    rw [ha] at h
    obtain ⟨hu, hsz⟩ := slcOf_some ha
    obtain ⟨h1, h2⟩ := R.gives_if (show (selB (andB (isByteT P a.1) (Nat.beq a.2 1)) _ (R.fail "convert")).gives c.ρ m p bs q from h)
    obtain ⟨h3, _⟩ := andB_iff.1 h1
    have hb := isByteT_iff h3
    obtain ⟨l, rfl, h4⟩ := onStr_gives h2
    obtain ⟨rfl, _⟩ := R.gives_pure h4
    obtain ⟨s, rfl, hbr⟩ := VR.str.1 hx
    have hlen : lenL l = s.size := by rw [lenL_eq, ← hbr.length]; simp
    have hss : s.data.size = s.size := rfl
    have hge : s.size ≤ grownCap w s.size 0 a.1 := grownCap_ge w s.size 0 a.1
    have hcs : (byteCells s (grownCap w s.size 0 a.1)).size = grownCap w s.size 0 a.1 := by
      unfold byteCells; rw [Array.size_append, Array.size_map, Array.size_replicate, hss]; omega
    refine ⟨.cells (byteCells s (grownCap w s.size 0 a.1)) a.1 (grownCap w s.size 0 a.1, grownCap w s.size 0 a.1 + 1), .slice (some ⟨w.heap.size, 0, none⟩) s.size (grownCap w s.size 0 a.1), ?_, rfl, fun n0 c' b hle hb' hβ => ⟨?_, VR.slice.2 ⟨hb', grownCap w s.size 0 a.1, trivial, by rw [hlen]; exact hge, ?_⟩⟩⟩
    · have hf := freeze_alloc (w := w.drew) (byteCells s (grownCap w s.size 0 a.1)) a.1
      rw [hcs] at hf
      rw [← hf]
      have hsh : (w.drew.alloc (.cells (byteCells s (grownCap w s.size 0 a.1)) a.1)).shape? w.heap.size = some (a.1, grownCap w s.size 0 a.1) := by
        unfold World.shape?
        rw [show w.heap.size = w.drew.heap.size from rfl, heap_push_new w.drew]
        show some (a.1, (byteCells s (grownCap w s.size 0 a.1)).size) = _
        rw [hcs]
      simp [convert, run_und (isStrT_iff hs), run_und hu, run_und hb, Conv.stringToBytes, Question.forced, newRow, markStringish]
      have e1 : (Question.appendCap s.size 0 a.1).cut (w.tape w.drawn (Question.appendCap s.size 0 a.1)) = grownCap w s.size 0 a.1 := rfl
      have e2 : Array.map (fun b : UInt8 => Value.int IntKind.u8 (b.toNat : Int)) s.data ++ Array.replicate (grownCap w s.size 0 a.1 - s.size) (Value.int IntKind.u8 0) = byteCells s (grownCap w s.size 0 a.1) := rfl
      rw [e1, e2, hsh]
      simp
    · refine ⟨_, a.1, _, heap_push_new w.drew _, fun j v hj => ?_, fun e => absurd e (by simp), fun _ => .inr (Nat.le_of_eq hcs), trivial⟩
      rw [List.getElem?_map, Option.map_eq_some_iff] at hj
      obtain ⟨e, he, rfl⟩ := hj
      obtain ⟨b, hb', hd⟩ := hbr.get he
      have hb' : s.data[j]? = some b := by simpa using hb'
      have hjs : j < s.data.size := (Array.getElem?_eq_some_iff.1 hb').1
      refine ⟨.int .u8 b.toNat, ?_, VR.int.2 ⟨?_, ?_⟩⟩
      · show (byteCells s (grownCap w s.size 0 a.1))[0 + j]? = _
        unfold byteCells
        rw [Nat.zero_add, Array.getElem?_append_left (by rw [Array.size_map]; exact hjs), Array.getElem?_map, hb']; rfl
      · show _ = Value.int .u8 (e.den c'.ρ); rw [hle.ρ, hd]
      · show kMin .u8 ≤ e.den c'.ρ ∧ e.den c'.ρ ≤ kMax .u8
        rw [hle.ρ, hd]; have := b.toNat_lt
        exact ⟨by simp [kMin, IntKind.signed], by simp [kMax, limN]; omega⟩
    · unfold Cx.ad
      rw [hβ, hlen]; rfl

theorem bytesM_ok (hm : MemR c m w) {src dst : TypeId} {x v : V} {X : Value} (hx : VR c x X) (hs : isStrT P src = true) (h : (bytesM P dst x).gives c.ρ m p v m' q) : q = p ∧ EfOK P c m w m' v (convert src dst X) := by
  unfold bytesM at h
  cases ha : slcOf P dst with
  | none => rw [ha] at h; exact (M.gives_fail h).elim
  | some a =>
    rw [ha] at h
    obtain ⟨hu, hsz⟩ := slcOf_some ha
    obtain ⟨h1, h2⟩ := M.gives_if (show (selB (andB (isByteT P a.1) (Nat.beq a.2 1)) _ (M.fail "convert")).gives c.ρ m p v m' q from h)
    obtain ⟨h3, _⟩ := andB_iff.1 h1
    have hb := isByteT_iff h3
    obtain ⟨l, rfl, h4⟩ := onStrM_gives h2
    obtain ⟨s, rfl, hbr⟩ := VR.str.1 hx
    obtain ⟨tk, m1, p1, h5, h6⟩ := M.gives_bnd h4
    obtain ⟨rfl, rfl, rfl⟩ := newTok_gives h5
    obtain ⟨i, m2, p2, h7, h8⟩ := M.gives_bnd h6
    obtain ⟨rfl, rfl, rfl⟩ := newBlk_gives h7
    obtain ⟨rfl, rfl, rfl⟩ := M.gives_pure h8
    have hlen : lenL l = s.size := by rw [lenL_eq, ← hbr.length]; simp
    have hss : s.data.size = s.size := rfl
    have hge : s.size ≤ grownCap w s.size 0 a.1 := grownCap_ge w s.size 0 a.1
    have s1 := Step.drew hm
    have s2 := Step.tok s1.rel (lb := lenL l) (n := grownCap w s.size 0 a.1) (by rw [hlen]; exact hge)
    have hnt : (c.addT (grownCap w s.size 0 a.1)).γ c.nt = grownCap w s.size 0 a.1 := if_pos rfl
    have hcs : (byteCells s (grownCap w s.size 0 a.1)).size = grownCap w s.size 0 a.1 := by
      unfold byteCells; rw [Array.size_append, Array.size_map, Array.size_replicate, hss]; omega
    have s3 := Step.new s2.rel (b := .cells (l.map (.int .u8)) true false (some (m.nt, 1)))
      (o := .cells (byteCells s (grownCap w s.size 0 a.1)) a.1 (grownCap w s.size 0 a.1, grownCap w s.size 0 a.1 + 1)) (by
        refine ⟨_, a.1, _, heap_push_new w.drew _, fun j v hj => ?_, fun e => absurd e (by simp), fun _ => .inr (Nat.le_of_eq hcs), ?_, ?_⟩
        · rw [List.getElem?_map, Option.map_eq_some_iff] at hj
          obtain ⟨e, he, rfl⟩ := hj
          obtain ⟨b, hb', hd⟩ := hbr.get he
          have hb' : s.data[j]? = some b := by simpa using hb'
          have hjs : j < s.data.size := (Array.getElem?_eq_some_iff.1 hb').1
          refine ⟨.int .u8 b.toNat, ?_, VR.int.2 ⟨?_, ?_⟩⟩
          · show (byteCells s (grownCap w s.size 0 a.1))[0 + j]? = _
            unfold byteCells
            rw [Nat.zero_add, Array.getElem?_append_left (by rw [Array.size_map]; exact hjs), Array.getElem?_map, hb']; rfl
          · show _ = Value.int .u8 (e.den c.ρ); rw [hd]
          · show kMin .u8 ≤ e.den c.ρ ∧ e.den c.ρ ≤ kMax .u8
            rw [hd]; have := b.toNat_lt
            exact ⟨by simp [kMin, IntKind.signed], by simp [kMax, limN]; omega⟩
        · show m.nt < c.nt + 1; rw [hm.nt]; exact Nat.lt_succ_self _
        · show 0 + (c.addT (grownCap w s.size 0 a.1)).γ m.nt * 1 ≤ _
          rw [← hm.nt, hnt, hcs]; omega)
    refine ⟨rfl, _, _, .slice (some ⟨w.heap.size, 0, none⟩) s.size (grownCap w s.size 0 a.1), (s1.trans s2).trans s3, ?_, VR.slice.2 ⟨?_, grownCap w s.size 0 a.1, ⟨?_, ?_⟩, by rw [hlen]; exact hge, ?_⟩⟩
    · have hf := freeze_alloc (w := w.drew) (byteCells s (grownCap w s.size 0 a.1)) a.1
      rw [hcs] at hf
      rw [← hf]
      have hsh : (w.drew.alloc (.cells (byteCells s (grownCap w s.size 0 a.1)) a.1)).shape? w.heap.size = some (a.1, grownCap w s.size 0 a.1) := by
        unfold World.shape?
        rw [show w.heap.size = w.drew.heap.size from rfl, heap_push_new w.drew]
        show some (a.1, (byteCells s (grownCap w s.size 0 a.1)).size) = _
        rw [hcs]
      simp [convert, run_und (isStrT_iff hs), run_und hu, run_und hb, Conv.stringToBytes, Question.forced, newRow, markStringish]
      have e1 : (Question.appendCap s.size 0 a.1).cut (w.tape w.drawn (Question.appendCap s.size 0 a.1)) = grownCap w s.size 0 a.1 := rfl
      have e2 : Array.map (fun b : UInt8 => Value.int IntKind.u8 (b.toNat : Int)) s.data ++ Array.replicate (grownCap w s.size 0 a.1 - s.size) (Value.int IntKind.u8 0) = byteCells s (grownCap w s.size 0 a.1) := rfl
      rw [e1, e2, hsh]
      simp
    · exact .inr hm.nb.symm
    · show m.nt < c.nt + 1; rw [hm.nt]; exact Nat.lt_succ_self _
    · show grownCap w s.size 0 a.1 + 0 = (c.addT (grownCap w s.size 0 a.1)).γ m.nt
      rw [← hm.nt, hnt]; rfl
    · unfold Cx.ad
      rw [← hm.nb, hlen]
      show _ = Value.slice (some ⟨(((c.addT (grownCap w s.size 0 a.1)).addB w.drew).β (c.addT (grownCap w s.size 0 a.1)).nb).1, (((c.addT (grownCap w s.size 0 a.1)).addB w.drew).β (c.addT (grownCap w s.size 0 a.1)).nb).2 + 0, none⟩) _ _
      rw [Cx.addB_new]; rfl

theorem markT_iff {s d : TypeId} (h : markT P s d = true) : s = d ∧ isStrT P s = false ∧ ∃ e, P.underlying s = some (.slice e) ∧ P.underlying e = some (.int .u8) := by
  unfold markT at h
  rw [Bool.and_eq_true, Bool.and_eq_true, beq_iff] at h
  obtain ⟨⟨h1, h2⟩, h3⟩ := h
  refine ⟨h1, by simpa using h2, ?_⟩
  split at h3
  · rename_i e hu
    exact ⟨e, hu, isByteT_iff h3⟩
  · exact nomatch h3

theorem markM_ok (hm : MemR c m w) {s d : TypeId} {x v : V} {X : Value} (hx : VR c x X) (hmk : markT P s d = true) (h : (markM x).gives c.ρ m p v m' q) : q = p ∧ EfOK P c m w m' v (convert s d X) := by
  obtain ⟨rfl, _, e, hu, hb⟩ := markT_iff hmk
  cases x <;> try exact (M.gives_fail (s := "mark") h).elim
  case slice i o n cp =>
    obtain ⟨l, wr, pl, g, hg, h1⟩ := onCellsM_gives (show T.out c.ρ (onCells (m.tr.get i) (fun l wr _ g => selB wr ((putBlk i (.cells l true false g)).bnd fun _ => M.pure (V.slice i o n cp)) (M.fail "mark") m p) (.fail "mark")) = some ⟨v, m', q⟩ from h)
    obtain ⟨hw, h2⟩ := M.gives_if (show (selB wr ((putBlk i (.cells l true false g)).bnd fun _ => M.pure (V.slice i o n cp)) (M.fail "mark")).gives c.ρ m p v m' q from h1)
    subst hw
    obtain ⟨_, m1, p1, h3, h4⟩ := M.gives_bnd h2
    obtain ⟨rfl, rfl⟩ := putBlk_gives h3
    obtain ⟨rfl, rfl, rfl⟩ := M.gives_pure h4
    obtain ⟨_, cs, t, fr, k1, k2, _, k4, k5⟩ := hm.blk i _ hg
    obtain ⟨hi, cap, hc, hle, rfl⟩ := VR.slice.1 hx
    have hfr := k4 rfl
    have hcell : ((w.freeze ⟨(c.β i).1, cs.size, none⟩ 1).heap)[(c.β i).1]? = some (.cells cs t (if fr.1 == fr.2 then (cs.size, cs.size + 1) else (min fr.1 cs.size, max fr.2 (cs.size + 1)))) := by
      unfold World.freeze
      rw [if_neg (by decide)]
      simp only [Array.getElem?_modify, if_true, k1, Option.map_some]
    have s1 : Step c m w c ⟨m.tr.set i (.cells l true false g), m.nb, m.tok, m.nt⟩ (w.freeze ⟨(c.β i).1, cs.size, none⟩ 1) := by
      refine Step.put hm hg rfl ⟨cs, t, _, hcell, k2, fun e => absurd e (by simp), fun _ => .inr ?_, k5⟩ ?_ ?_ ?_ ?_ ?_
      · rcases hfr with rfl | hfr
        · simp
        · split
          · exact Nat.le_refl _
          · show cs.size ≤ min fr.1 cs.size
            omega
      · unfold World.freeze; rw [if_neg (by decide)]; simp
      · intro k hk
        unfold World.freeze
        rw [if_neg (by decide)]
        simp only [Array.getElem?_modify]
        rw [if_neg (fun e => hk e.symm)]
      all_goals (unfold World.freeze; rw [if_neg (by decide)])
    refine ⟨rfl, c, _, _, s1, ?_, hx⟩
    have hsh : w.shape? (c.β i).1 = some (t, cs.size) := by
      unfold World.shape?
      rw [k1]
    have hblk : (c.ad i o).block = (c.β i).1 := rfl
    simp [convert, run_und hu, run_und hb, markStringish, hblk, hsh]
end ops

end Go.Sy

/-
  What is proved here: the evaluator's slots and operands; an operation that reads, or makes a block, does what the model's does.
  Conditions: none.
-/
namespace Go.Sy

/-- the globals' blocks have their own numbers; the names from 3072 on stand for maps that are laid -/
def GlobR (c : Cx) : Prop := 4096 ≤ c.nb ∧ ∀ i, i < 3072 → c.has i ∧ c.β i = (i, 0)

theorem GlobR.mono {n0 : Nat} {c c' : Cx} (h : c.leN n0 c') (hg : GlobR c) : GlobR c' :=
  ⟨Nat.le_trans hg.1 h.nb, fun i hi => ⟨h.hs i (hg.2 i hi).1, (h.β i (hg.2 i hi).1).trans (hg.2 i hi).2⟩⟩

/-- the slots -/
structure EnvR (c : Cx) (n : Nat) (env : Env) (a : Act) : Prop where
  size : a.tmps.size = n
  slot : ∀ j, VR c (env j) (a.tmps.getD j undef)
  glob : GlobR c

theorem EnvR.mono {n0 : Nat} {c c' : Cx} {n : Nat} {env : Env} {a : Act} (h : c.leN n0 c') (he : EnvR c n env a) : EnvR c' n env a :=
  ⟨he.size, fun j => (he.slot j).mono h, he.glob.mono h⟩

section ops
variable {P : Program} {c : Cx} {m m' : Mem} {w : World} {p q : Pc} {n : Nat} {env : Env} {a : Act}

theorem opd_ok (he : EnvR c n env a) (x : Operand) : VR c (opd x env) (a.eval x) := by
  cases x with
  | tmp t => exact he.slot t
  | const v => exact constV_ok v
  | global g =>
    refine (?_ : VR c (selB (Nat.blt g 3072) (V.ptr g 0) .bad) (.pointer (some ⟨g, 0, none⟩)))
    cases hg : Nat.blt g 3072 with
    | false => exact VR.bad
    | true =>
      rw [blt_iff] at hg
      refine VR.ptr.2 ⟨(he.glob.2 g hg).1, ?_⟩
      unfold Cx.ad
      rw [(he.glob.2 g hg).2]
  | func f => exact VR.func.2 ⟨#[], #[], rfl, VRs.nil, VRs.nil⟩

theorem opds_ok (he : EnvR c n env a) : ∀ (l : List Operand), VRs c (opds l env) (l.map a.eval)
  | [] => VRs.nil
  | x :: l => VRs.cons (opd_ok he x) (opds_ok he l)

theorem optV_ok (he : EnvR c n env a) (x : Option Operand) : OptR c (optV x env) (x.map a.eval) := by
  cases x with
  | none => rfl
  | some x => exact ⟨_, rfl, opd_ok he x⟩

theorem partsV_ok (he : EnvR c n env a) : ∀ (l : List (Nat × Operand)), PartsR c (partsV l env) (l.map fun x => (x.1, a.eval x.2))
  | [] => rfl
  | x :: l => ⟨_, _, rfl, rfl, opd_ok he x.2, partsV_ok he l⟩

theorem Act.put_tmps (a : Act) (d : Nat) (v : Value) : (a.put (some d) v).tmps = a.tmps.setIfInBounds d v := rfl

theorem put_ok (he : EnvR c n env a) {d : Nat} (hd : d < n) {v : V} {x : Value} (hv : VR c v x) : EnvR c n (env.put d v) (a.put (some d) x) := by
  refine ⟨by rw [Act.put_tmps]; simpa using he.size, fun j => ?_, he.glob⟩
  rw [Act.put_tmps]
  show VR c (Bool.rec (env j) v (Nat.beq j d)) _
  have hs := he.size
  cases hj : Nat.beq j d with
  | true =>
    rw [beq_iff] at hj; subst hj
    have : (a.tmps.setIfInBounds j x).getD j undef = x := by simp [Array.getD, hs, hd]
    rw [this]; exact hv
  | false =>
    rw [beq_false] at hj
    have : (a.tmps.setIfInBounds d x).getD j undef = a.tmps.getD j undef := by
      simp only [Array.getD_eq_getD_getElem?, Array.getElem?_setIfInBounds, if_neg (Ne.symm hj)]
    rw [this]; exact he.slot j

/-- into the slot, if there is one -/
theorem putM_ok (hm : MemR c m w) (he : EnvR c n env a) {d : Option Nat} {v : V} {x : Value} {env' : Env} (hv : VR c v x) (h : (putM d n env v).gives c.ρ m p env' m' q) :
    q = p ∧ m' = m ∧ EnvR c n env' (a.put d x) := by
  have _ := hm
  cases d with
  | none =>
    obtain ⟨rfl, rfl, rfl⟩ := M.gives_pure (show (M.pure env).gives c.ρ m p env' m' q from h)
    exact ⟨rfl, rfl, he⟩
  | some d =>
    obtain ⟨h1, h2⟩ := M.gives_if (show (selB (Nat.blt d n) (M.pure (env.put d v)) (M.fail "a slot beyond the frame")).gives c.ρ m p env' m' q from h)
    obtain ⟨rfl, rfl, rfl⟩ := M.gives_pure h2
    exact ⟨rfl, rfl, put_ok he ((blt_iff _ _).1 h1) hv⟩

theorem opds_arr (he : EnvR c n env a) (xs : Array Operand) : VRs c (opds xs.toList env) (xs.map a.eval).toList := by
  rw [Array.toList_map]; exact opds_ok he xs.toList

theorem parts_arr (he : EnvR c n env a) (ps : Array (Nat × Operand)) : PartsR c (partsV ps.toList env) (ps.map fun (i, x) => (i, a.eval x)).toList := by
  rw [Array.toList_map]; exact partsV_ok he ps.toList

theorem on1_gives {α : Type} {l : List V} {f : V → R α} {s : String} {v : α} (h : (on1 l f (R.fail s)).gives c.ρ m p v q) : ∃ x r, l = x :: r ∧ (f x).gives c.ρ m p v q := by
  cases l with
  | nil => exact (R.gives_fail (s := s) h).elim
  | cons x r => exact ⟨x, r, rfl, h⟩
theorem onT_gives {α : Type} {l : List TypeId} {f : TypeId → List TypeId → R α} {s : String} {v : α} (h : (onT l f (R.fail s)).gives c.ρ m p v q) : ∃ x r, l = x :: r ∧ (f x r).gives c.ρ m p v q := by
  cases l with
  | nil => exact (R.gives_fail (s := s) h).elim
  | cons x r => exact ⟨x, r, rfl, h⟩
theorem on2_gives {α : Type} {l : List V} {f : V → V → M α} {s : String} {v : α} (h : (on2 l f (M.fail s)).gives c.ρ m p v m' q) : ∃ x y r, l = x :: y :: r ∧ (f x y).gives c.ρ m p v m' q := by
  cases l with
  | nil => exact (M.gives_fail (s := s) h).elim
  | cons x r => cases r with
    | nil => exact (M.gives_fail (s := s) h).elim
    | cons y r => exact ⟨x, y, r, rfl, h⟩
theorem onTM_gives {α : Type} {l : List TypeId} {f : TypeId → List TypeId → M α} {s : String} {v : α} (h : (onT l f (M.fail s)).gives c.ρ m p v m' q) : ∃ x r, l = x :: r ∧ (f x r).gives c.ρ m p v m' q := by
  cases l with
  | nil => exact (M.gives_fail (s := s) h).elim
  | cons x r => exact ⟨x, r, rfl, h⟩

theorem head_arr {l : List V} {xs : Array Value} {x : V} {r : List V} (h : VRs c l xs.toList) (hl : l = x :: r) : ∃ X, xs[0]? = some X ∧ VR c x X := by
  subst hl
  obtain ⟨X, ys, hxs, h1, _⟩ := VRs.cons_iff.1 h
  exact ⟨X, by rw [← Array.getElem?_toList, hxs]; rfl, h1⟩
theorem head2_arr {l : List V} {xs : Array Value} {x y : V} {r : List V} (h : VRs c l xs.toList) (hl : l = x :: y :: r) : ∃ X Y, xs[0]? = some X ∧ xs[1]? = some Y ∧ VR c x X ∧ VR c y Y := by
  subst hl
  obtain ⟨X, ys, hxs, h1, h2⟩ := VRs.cons_iff.1 h
  obtain ⟨Y, zs, hys, h3, _⟩ := VRs.cons_iff.1 h2
  subst hys
  exact ⟨X, Y, by rw [← Array.getElem?_toList, hxs]; rfl, by rw [← Array.getElem?_toList, hxs]; rfl, h1, h3⟩
end ops

end Go.Sy

/-
  What is proved here: an operation that reads, or makes a block, does what the model's does.
  Conditions: none.
-/
namespace Go.Sy

section ops
variable {P : Program} {c : Cx} {m m' : Mem} {w : World} {p q : Pc} {n : Nat} {env : Env} {a : Act}

theorem Kd.al_rd {f : R (Blk × Shp)} {g : R V} (h : Kd.al f = .rd g) : False := nomatch h
theorem Kd.ef_rd {f : M V} {g : R V} (h : Kd.ef f = .rd g) : False := nomatch h

/-- the run of an operation that gives a value -/
def GivesR (P : Program) (c : Cx) (w : World) (o : Oper) (a : Act) (v : V) : Prop := ∃ z, (execOp a.eval o).run P w = .ok (.value z) w ∧ VR c v z

theorem rd_ok (hm : MemR c m w) (hp : PcR c.ρ p) (he : EnvR c n env a) {o : Oper} {cf : FuncId → List V → M V} {f : R V} {v : V} (hk : evKind o.op P cf env = .rd f) (h : f.gives c.ρ m p v q) :
    PcR c.ρ q ∧ GivesR P c w o a v := by
  unfold GivesR execOp
  cases ho : o.op <;> rw [ho] at hk <;> first | exact (Kd.al_rd hk).elim | exact (Kd.ef_rd hk).elim | skip
  case move x =>
    have hk : Kd.rd (R.pure (opd x env)) = .rd f := hk
    simp only [Kd.rd.injEq] at hk; subst hk
    obtain ⟨rfl, rfl⟩ := R.gives_pure h
    exact ⟨hp, _, by simp, opd_ok he x⟩
  case assign x =>
    have hk : Kd.rd (R.pure (opd x env)) = .rd f := hk
    simp only [Kd.rd.injEq] at hk; subst hk
    obtain ⟨rfl, rfl⟩ := R.gives_pure h
    exact ⟨hp, _, by simp, opd_ok he x⟩
  case pick x y z =>
    have hk : Kd.rd (onBool (opd x env) (fun t => (decR t).bnd fun t => Bool.rec (R.pure (opd z env)) (R.pure (opd y env)) t) (R.fail "pick")) = .rd f := hk
    simp only [Kd.rd.injEq] at hk; subst hk
    obtain ⟨b, hb, h1⟩ := onBool_gives h
    have hx := opd_ok he x
    rw [hb, VR.bool] at hx
    obtain ⟨u, p1, h2, h3⟩ := R.gives_bnd h1
    obtain ⟨h4, h5⟩ := decR_gives hp h2
    rw [h4] at hx
    cases u
    · obtain ⟨rfl, rfl⟩ := R.gives_pure (show (R.pure (opd z env)).gives c.ρ m p1 v q from h3)
      exact ⟨h5, _, by simp [hx, asBool], opd_ok he z⟩
    · obtain ⟨rfl, rfl⟩ := R.gives_pure (show (R.pure (opd y env)).gives c.ρ m p1 v q from h3)
      exact ⟨h5, _, by simp [hx, asBool], opd_ok he y⟩
  case build t ps =>
    have hk : Kd.rd (buildR P t (partsV ps.toList env)) = .rd f := hk
    simp only [Kd.rd.injEq] at hk; subst hk
    obtain ⟨rfl, z, h1, h2⟩ := buildR_ok (w := w) (parts_arr he ps) h
    exact ⟨hp, z, by simp [h1], h2⟩
  case load t x =>
    have hk : Kd.rd (loadPtr P t (opd x env)) = .rd f := hk
    simp only [Kd.rd.injEq] at hk; subst hk
    obtain ⟨rfl, i, o', hx, z, h1, h2⟩ := loadPtr_ok hm hp (opd_ok he x) h
    exact ⟨hp, z, by simp [Instr.loadAt, hx, Instr.sureAddr, h1], h2⟩
  case nilCheck x =>
    have hk : Kd.rd (nilCheckR P (opd x env)) = .rd f := hk
    simp only [Kd.rd.injEq] at hk; subst hk
    have hx := opd_ok he x
    obtain ⟨rfl, rfl, hcs⟩ := nilCheckR_ok hx h
    rcases hcs with ⟨b, hb⟩ | ⟨g, b, d, hb⟩ | ⟨t, y, hb⟩ | ⟨nm, al, as, bs, hb, hn, hal⟩
    · exact ⟨hp, a.eval x, by simp [hb], hx⟩
    · exact ⟨hp, a.eval x, by simp [hb], hx⟩
    · exact ⟨hp, a.eval x, by simp [hb], hx⟩
    · obtain ⟨t, y, r, g1, g2, g3⟩ := nilMeth_ok hal hn
      have g1 : as[0]? = some (.iface t y) := by simpa using g1
      have hprog : (program).run P w = .ok P w := rfl
      obtain ⟨k, hk⟩ : ∃ k, P.types.size + Made.depth = k + 1 := ⟨P.types.size + 99, rfl⟩
      exact ⟨hp, a.eval x, by simp [hb, g1, Sem.run_bind, hprog, hk, nilAhead_ok (w := w) (k := k) (y := y) g2 g3], hx⟩
  case binOp op t x y u =>
    have hk : Kd.rd (binR op P t (orB (isConst x) (isConst y)) (opd x env) (opd y env)) = .rd f := hk
    simp only [Kd.rd.injEq] at hk; subst hk
    obtain ⟨h0, z, h1, h2⟩ := binR_ok (P := P) hm hp (opd_ok he x) (opd_ok he y) h
    refine ⟨h0, z, ?_, h2⟩
    show (do pure (Next.value (← (do eqGuard op t x y (a.eval x) (a.eval y); binOp op t (a.eval x) (a.eval y) : Sem Value))) : Sem Next).run P w = _
    rw [Sem.run_bind, h1, Result.andThen_ok, Sem.run_pure]
  case unOp op t x =>
    have hk : Kd.rd (unR op (opd x env)) = .rd f := hk
    simp only [Kd.rd.injEq] at hk; subst hk
    obtain ⟨rfl, z, h1, h2⟩ := unR_ok (P := P) (w := w) hp (opd_ok he x) h
    exact ⟨hp, z, by simp [h1], h2⟩
  case convert s d x =>
    have hk : (Bool.rec (Bool.rec (Kd.rd (convR P s d (opd x env))) (.ef (markM (opd x env))) (markT P s d)) (.ef (bytesM P d (opd x env))) (toSlice P s d) : Kd) = .rd f := hk
    cases hs : toSlice P s d <;> rw [hs] at hk
    · cases hmk : markT P s d <;> rw [hmk] at hk
      · simp only [Kd.rd.injEq] at hk; subst hk
        obtain ⟨rfl, z, h1, h2⟩ := convR_ok hm hp (opd_ok he x) h
        exact ⟨hp, z, by simp [h1], h2⟩
      · exact (Kd.ef_rd hk).elim
    · exact (Kd.ef_rd hk).elim
  case makeInterface t x =>
    have hk : Kd.rd (Option.rec (selB (hasT P t) (R.pure (.iface t (opd x env))) (R.fail "makeInterface")) (fun _ => R.fail "makeInterface") (wantsOf P t) : R V) = .rd f := hk
    simp only [Kd.rd.injEq] at hk; subst hk
    cases hw : wantsOf P t with
    | some ws => rw [hw] at h; exact (R.gives_fail (s := "makeInterface") h).elim
    | none =>
      rw [hw] at h
      obtain ⟨h1, h2⟩ := R.gives_if (show (selB (hasT P t) (R.pure (V.iface t (opd x env))) (R.fail "makeInterface")).gives c.ρ m p v q from h)
      obtain ⟨rfl, rfl⟩ := R.gives_pure h2
      obtain ⟨d, hu⟩ := hasT_iff h1
      have hni := wantsOf_none hw
      refine ⟨hp, .iface t (a.eval x), ?_, VR.iface.2 ⟨_, rfl, opd_ok he x⟩⟩
      cases d <;> first | exact absurd hu (hni _) | simp [Instr.makeInterface, run_und hu]
  case makeFunc fn first cap =>
    have hk : Kd.rd (R.pure (.func fn (opds first.toList env) (opds cap.toList env))) = .rd f := hk
    simp only [Kd.rd.injEq] at hk; subst hk
    obtain ⟨rfl, rfl⟩ := R.gives_pure h
    exact ⟨hp, .func fn (first.map a.eval) (cap.map a.eval), by simp [Instr.makeFunc], VR.func.2 ⟨_, _, rfl, opds_arr he first, opds_arr he cap⟩⟩
  case slice t x lo hi mx =>
    have hk : Kd.rd ((splitO (opd x env) (optV lo env)).bnd fun l => (splitO (opd x env) (optV hi env)).bnd fun h => sliceR P t l h (optV mx env) (opd x env)) = .rd f := hk
    simp only [Kd.rd.injEq] at hk; subst hk
    obtain ⟨l1, p1, g1, g2⟩ := R.gives_bnd h
    obtain ⟨hp1, hl1⟩ := splitO_ok hp (optV_ok he lo) g1
    obtain ⟨l2, p2, g3, g4⟩ := R.gives_bnd g2
    obtain ⟨hp2, hl2⟩ := splitO_ok hp1 (optV_ok he hi) g3
    obtain ⟨rfl, z, h1, h2⟩ := sliceR_ok (P := P) hm hp2 hl1 hl2 (optV_ok he mx) (opd_ok he x) g4
    exact ⟨hp2, z, by simp [h1], h2⟩
  case fieldAddr t x k =>
    have hk : Kd.rd (fieldAddrR P t k (opd x env)) = .rd f := hk
    simp only [Kd.rd.injEq] at hk; subst hk
    obtain ⟨rfl, z, h1, h2⟩ := fieldAddrR_ok (w := w) (opd_ok he x) h
    exact ⟨hp, z, by simp [h1], h2⟩
  case field t x k =>
    have hk : Kd.rd (fieldR P t k (opd x env)) = .rd f := hk
    simp only [Kd.rd.injEq] at hk; subst hk
    obtain ⟨rfl, z, h1, h2⟩ := fieldR_ok (w := w) (opd_ok he x) h
    exact ⟨hp, z, by simp [h1], h2⟩
  case indexAddr t x y =>
    have hk : Kd.rd ((splitIx (opd x env) (opd y env)).bnd fun i => indexAddrR P t (opd x env) i) = .rd f := hk
    simp only [Kd.rd.injEq] at hk; subst hk
    obtain ⟨i1, p1, g1, g2⟩ := R.gives_bnd h
    obtain ⟨hp1, hi1⟩ := splitIx_ok hp (opd_ok he y) g1
    obtain ⟨rfl, z, h1, h2⟩ := indexAddrR_ok (w := w) hp1 (opd_ok he x) hi1 g2
    exact ⟨hp1, z, by simp [h1], h2⟩
  case index t x y =>
    have hk : Kd.rd ((splitIx (opd x env) (opd y env)).bnd fun i => indexR P t (opd x env) i) = .rd f := hk
    simp only [Kd.rd.injEq] at hk; subst hk
    obtain ⟨i1, p1, g1, g2⟩ := R.gives_bnd h
    obtain ⟨hp1, hi1⟩ := splitIx_ok hp (opd_ok he y) g1
    obtain ⟨rfl, z, h1, h2⟩ := indexR_ok (w := w) hp1 (opd_ok he x) hi1 g2
    exact ⟨hp1, z, by simp [h1], h2⟩
  case lookup t x y ok =>
    have hk : Kd.rd (lookupR P t ok (opd x env) (opd y env)) = .rd f := hk
    simp only [Kd.rd.injEq] at hk; subst hk
    obtain ⟨h0, z, h1, h2⟩ := lookupR_ok hm hp (opd_ok he x) (opd_ok he y) h
    exact ⟨h0, z, by simp [h1], h2⟩
  case typeAssert x t u ok =>
    have hk : Kd.rd (assertR P u ok (opd x env)) = .rd f := hk
    simp only [Kd.rd.injEq] at hk; subst hk
    obtain ⟨rfl, z, h1, h2⟩ := assertR_ok (w := w) (xt := t) (opd_ok he x) h
    exact ⟨hp, z, by simp [h1], h2⟩
  case extract x i =>
    have hk : Kd.rd (onTup (opd x env) (fun l => R.opt "extract" (nth i l)) (R.fail "extract")) = .rd f := hk
    simp only [Kd.rd.injEq] at hk; subst hk
    obtain ⟨l, hl, h1⟩ := onTup_gives h
    obtain ⟨h2, rfl⟩ := R.gives_opt h1
    have hx := opd_ok he x
    rw [hl] at hx
    obtain ⟨xs, hxs, hvs⟩ := VR.tuple.1 hx
    rw [nth_eq] at h2
    obtain ⟨z, hz, hzr⟩ := hvs.get h2
    have hz : xs[i]? = some z := by simpa using hz
    exact ⟨hp, z, by simp [Instr.extract, hxs, hz], hzr⟩
  case call cl =>
    cases hc : cl.callee with
    | value g => rw [show evKind (Op.call cl) = hCall cl from rfl] at hk; unfold hCall at hk; rw [hc] at hk; exact (Kd.ef_rd hk).elim
    | invoke r nm => rw [show evKind (Op.call cl) = hCall cl from rfl] at hk; unfold hCall at hk; rw [hc] at hk; exact (Kd.ef_rd hk).elim
    | builtin b =>
      rw [show evKind (Op.call cl) = hCall cl from rfl] at hk; unfold hCall at hk; rw [hc] at hk
      cases b <;> first | exact (Kd.ef_rd hk).elim | skip
      case len =>
        have hk : Kd.rd (onT cl.argTypes.toList (fun t _ => on1 (opds cl.args.toList env) (lenR P t) (R.fail "len")) (R.fail "len")) = .rd f := hk
        simp only [Kd.rd.injEq] at hk; subst hk
        obtain ⟨t, us, ht, h1⟩ := onT_gives h
        obtain ⟨x, r, hx, h2⟩ := on1_gives h1
        obtain ⟨X, hX, hxr⟩ := head_arr (opds_arr he cl.args) hx
        obtain ⟨rfl, z, h3, h4⟩ := lenR_ok (P := P) (w := w) (ty := o.type) (ts := cl.argTypes) hm hxr (by rw [← Array.getElem?_toList, ht]; rfl) hX h2
        exact ⟨hp, z, by simp [resolve, hc, invoke, builtin, h3], h4⟩
      case cap =>
        have hk : Kd.rd (onT cl.argTypes.toList (fun t _ => on1 (opds cl.args.toList env) (capR P t) (R.fail "cap")) (R.fail "cap")) = .rd f := hk
        simp only [Kd.rd.injEq] at hk; subst hk
        obtain ⟨t, us, ht, h1⟩ := onT_gives h
        obtain ⟨x, r, hx, h2⟩ := on1_gives h1
        obtain ⟨X, hX, hxr⟩ := head_arr (opds_arr he cl.args) hx
        obtain ⟨rfl, z, h3, h4⟩ := capR_ok (P := P) (w := w) (ty := o.type) (ts := cl.argTypes) hxr (by rw [← Array.getElem?_toList, ht]; rfl) hX h2
        exact ⟨hp, z, by simp [resolve, hc, invoke, builtin, h3], h4⟩
      case max =>
        have hk : Kd.rd (minMax1 false (opds cl.args.toList env)) = .rd f := hk
        simp only [Kd.rd.injEq] at hk; subst hk
        obtain ⟨h0, z, h3, h4⟩ := minMax1_ok (P := P) (w := w) (ty := o.type) (ts := cl.argTypes) hp (opds_arr he cl.args) h
        have h3 : (Builtin.max_ cl.argTypes o.type (cl.args.map a.eval)).run P w = .ok z w := h3
        exact ⟨h0, z, by simp [resolve, hc, invoke, builtin, h3], h4⟩
      case min =>
        have hk : Kd.rd (minMax1 true (opds cl.args.toList env)) = .rd f := hk
        simp only [Kd.rd.injEq] at hk; subst hk
        obtain ⟨h0, z, h3, h4⟩ := minMax1_ok (P := P) (w := w) (ty := o.type) (ts := cl.argTypes) hp (opds_arr he cl.args) h
        have h3 : (Builtin.min_ cl.argTypes o.type (cl.args.map a.eval)).run P w = .ok z w := h3
        exact ⟨h0, z, by simp [resolve, hc, invoke, builtin, h3], h4⟩

theorem Kd.rd_al {f : R V} {g : R (Blk × Shp)} (h : Kd.rd f = .al g) : False := nomatch h
theorem Kd.ef_al {f : M V} {g : R (Blk × Shp)} (h : Kd.ef f = .al g) : False := nomatch h
theorem Kd.rd_ef {f : R V} {g : M V} (h : Kd.rd f = .ef g) : False := nomatch h
theorem Kd.al_ef {f : R (Blk × Shp)} {g : M V} (h : Kd.al f = .ef g) : False := nomatch h

/-- the run of an operation that makes a block -/
def MakesR (P : Program) (c : Cx) (w : World) (o : Oper) (a : Act) (bs : Blk × Shp) : Prop :=
  ∃ ob z, (execOp a.eval o).run P w = .ok (.value z) (w.alloc ob) ∧ NewR c w ob bs z

theorem AlOK.makes {o : Oper} {bs : Blk × Shp} {s : Sem Value} (h : AlOK P c w bs s) (he : execOp a.eval o = (do pure (.value (← s)))) : MakesR P c w o a bs := by
  obtain ⟨ob, z, h1, h2⟩ := h
  refine ⟨ob, z, ?_, h2⟩
  rw [he, Sem.run_bind, h1, Result.andThen_ok, Sem.run_pure]

theorem al_ok (hp : PcR c.ρ p) (he : EnvR c n env a) {o : Oper} {cf : FuncId → List V → M V} {f : R (Blk × Shp)} {bs : Blk × Shp} (hk : evKind o.op P cf env = .al f) (h : f.gives c.ρ m p bs q) :
    PcR c.ρ q ∧ MakesR P c w o a bs := by
  cases ho : o.op <;> rw [ho] at hk <;> first | exact (Kd.rd_al hk).elim | exact (Kd.ef_al hk).elim | skip
  case alloc t =>
    have hk : Kd.al (R.opt "alloc no zero" ((zeroOf P t).map fun z => (newCells z.cells, Shp.ptr))) = .al f := hk
    simp only [Kd.al.injEq] at hk; subst hk
    obtain ⟨rfl, h1⟩ := alloc_ok (P := P) (w := w) h
    exact ⟨hp, h1.makes (by unfold execOp; rw [ho])⟩
  case box t x =>
    have hk : Kd.al (selB (allCells (opd x env).cells) (R.pure (newCells (opd x env).cells, Shp.ptr)) (R.fail "box")) = .al f := hk
    simp only [Kd.al.injEq] at hk; subst hk
    obtain ⟨rfl, h1⟩ := box_ok (P := P) (w := w) (t := t) (opd_ok he x) h
    exact ⟨hp, h1.makes (by unfold execOp; rw [ho])⟩
  case buildSlice t k ps =>
    have hk : Kd.al (buildSliceR P t k (partsV ps.toList env)) = .al f := hk
    simp only [Kd.al.injEq] at hk; subst hk
    obtain ⟨rfl, h1⟩ := buildSlice_ok (P := P) (w := w) (parts_arr he ps) h
    exact ⟨hp, h1.makes (by unfold execOp; rw [ho])⟩
  case convert s d x =>
    have hk : (Bool.rec (Bool.rec (Kd.rd (convR P s d (opd x env))) (.ef (markM (opd x env))) (markT P s d)) (.ef (bytesM P d (opd x env))) (toSlice P s d) : Kd) = .al f := hk
    cases hs : toSlice P s d <;> rw [hs] at hk
    · cases hmk : markT P s d <;> rw [hmk] at hk
      · exact (Kd.rd_al hk).elim
      · exact (Kd.ef_al hk).elim
    · exact (Kd.ef_al hk).elim
  case makeMap t r =>
    have hk : Kd.al (Option.rec (R.pure (.map [] 0 true, .map)) (fun x => onInt (opd x env) (fun _ _ => selB (isMapT P t) (R.pure (.map [] 0 true, .map)) (R.fail "makeMap")) (R.fail "makeMap")) r : R (Blk × Shp)) = .al f := hk
    simp only [Kd.al.injEq] at hk; subst hk
    obtain ⟨rfl, h1⟩ := makeMap_ok (P := P) (w := w) (t := t) (optV_ok he r) (bs := bs) (by cases r <;> exact h)
    exact ⟨hp, h1.makes (by unfold execOp; rw [ho])⟩
  case makeSlice t l k =>
    have hk : Kd.al (makeSliceR P t (opd l env) (opd k env)) = .al f := hk
    simp only [Kd.al.injEq] at hk; subst hk
    obtain ⟨hq, h1⟩ := makeSlice_ok (P := P) (w := w) hp (opd_ok he l) (opd_ok he k) h
    exact ⟨hq, h1.makes (by unfold execOp; rw [ho])⟩
  case call cl =>
    cases hc : cl.callee with
    | value g => rw [show evKind (Op.call cl) = hCall cl from rfl] at hk; unfold hCall at hk; rw [hc] at hk; exact (Kd.ef_al hk).elim
    | invoke r nm => rw [show evKind (Op.call cl) = hCall cl from rfl] at hk; unfold hCall at hk; rw [hc] at hk; exact (Kd.ef_al hk).elim
    | builtin b =>
      rw [show evKind (Op.call cl) = hCall cl from rfl] at hk; unfold hCall at hk; rw [hc] at hk
      cases b <;> first | exact (Kd.ef_al hk).elim | exact (Kd.rd_al hk).elim
end ops

end Go.Sy

/-
  What is proved here: an operation that writes, or calls, does what the model's does.
  Conditions: none.
-/
namespace Go.Sy

/-- what a call may be of: a function with a body -/
def Callable (P : Program) (f : FuncId) : Prop := ∃ fn, P.funcs[f]? = some fn ∧ fn.body.isNone = false ∧ (fn.name == "runtime.NumGoroutine") = false

/-- a call comes back -/
def CallOK (P : Program) (f : FuncId) (args : Array Value) (c : Cx) (m : Mem) (w : World) (m' : Mem) (v : V) (q : Pc) : Prop :=
  Callable P f ∧ Calls P f args w fun e w' => ∃ c' z, e = .returned z ∧ Step c m w c' m' w' ∧ VR c' v z ∧ PcR c.ρ q

/-- all machines, the frame being in a round or not -/
def Fr (r : Option Nat) : Fence := { fn := fun _ => True, depth := none, alive := false, round := r }

theorem callsIn_Fr {r : Option Nat} {n : Nat} {P : Program} {f : FuncId} {args : Array Value} {w : World} {R : Ending → World → Prop} : CallsIn (Fr r) n P f args w R ↔ Calls P f args w R := by
  show CallsIn Fence.wide n P f args w R ↔ _
  exact callsIn_wide

/-- a round comes back -/
def YldOK (P : Program) (i : Nat) (args : Array Value) (c : Cx) (m : Mem) (w : World) (m' : Mem) (v : V) (q : Pc) : Prop :=
  ∃ fn tmps assign body, (Instr.yield (c.β i).1 args).run P w = .ok (.round (c.β i).1 fn tmps assign body) w ∧
    RoundIn (Fr none) 0 P (c.β i).1 fn tmps assign body w fun e w' => ∃ c' z, e = .returned z ∧ Step c m w c' m' w' ∧ VR c' v z ∧ PcR c.ρ q

theorem roundIn_Fr {r r' : Option Nat} {n : Nat} {P : Program} {l : Nat} {f : FuncId} {tmps : Array Value} {assign body : Code} {w : World} {R : Ending → World → Prop} (h : RoundIn (Fr r) n P l f tmps assign body w R) : RoundIn (Fr r') n P l f tmps assign body w R := h

/-- the evaluator's calls are the model's, and its rounds -/
def CallsOK (P : Program) (ρ : Nat → Int) (cf : FuncId → List V → M V) : Prop :=
  (∀ (f : FuncId) (l : List V) (c : Cx) (m m' : Mem) (w : World) (p q : Pc) (v : V) (args : Array Value), f ≠ yId → c.ρ = ρ → MemR c m w → PcR c.ρ p → GlobR c → VRs c l args.toList → (cf f l).gives c.ρ m p v m' q → CallOK P f args c m w m' v q) ∧
  ∀ (i : Nat) (l : List V) (c : Cx) (m m' : Mem) (w : World) (p q : Pc) (v : V) (args : Array Value), c.ρ = ρ → MemR c m w → PcR c.ρ p → GlobR c → c.has i → VRs c l args.toList → (cf yId (.yld i :: l)).gives c.ρ m p v m' q → YldOK P i args c m w m' v q

section ops
variable {P : Program} {c : Cx} {m m' : Mem} {w : World} {p q : Pc} {n : Nat} {env : Env} {a : Act}

theorem cfq_gives {cf : FuncId → List V → M V} {f : FuncId} {l : List V} {v : V} {ρ : Nat → Int} (h : (cfq cf f l).gives ρ m p v m' q) : f ≠ yId ∧ (cf f l).gives ρ m p v m' q := by
  have h : (selB (Nat.beq f yId) (M.fail "no such function") (cf f l)).gives ρ m p v m' q := h
  cases hb : Nat.beq f yId with
  | true => rw [hb] at h; exact (M.gives_fail (s := "no such function") h).elim
  | false => rw [hb] at h; exact ⟨(beq_false _ _).1 hb, h⟩

theorem run_callFunc {f : FuncId} (h : Callable P f) (args : Array Value) : (callFunc f args).run P w = .ok (.enter f args) w := by
  obtain ⟨fn, h1, h2, h3⟩ := h
  have h3 : fn.name ≠ "runtime.NumGoroutine" := by simpa using h3
  have h2 : fn.body ≠ none := by cases hb : fn.body <;> simp [hb] at h2 ⊢
  simp [callFunc, h1, h2, h3]

/-- what an operation that writes, or calls, does -/
def EffR (P : Program) (c : Cx) (m : Mem) (w : World) (m' : Mem) (v : V) (q : Pc) (o : Oper) (a : Act) : Prop :=
  (∀ cl, o.op ≠ .defer cl) → ∀ (r : Option Nat) (K : Act → World → Prop) (Q : Exit → Act → World → Prop), (∀ c' w' z, PcR c.ρ q → Step c m w c' m' w' → VR c' v z → K (a.put o.dst z) w') → o.wpIn (Fr r) 0 P a w K Q

/-- an operation's run -/
theorem wpIn_of {o : Oper} {r : Option Nat} {K : Act → World → Prop} {Q : Exit → Act → World → Prop} (hnd : ∀ cl, o.op ≠ .defer cl) (h : o.uponIn (Fr r) 0 P a K Q ((execOp a.eval o).run P w)) : o.wpIn (Fr r) 0 P a w K Q :=
  ⟨fun _ _ => trivial, by rw [Oper.semAt_eq _ _ _ hnd]; exact h⟩

theorem EffR.of_value {o : Oper} {v : V} {s : Sem Value} (hq : PcR c.ρ q) (h : EfOK P c m w m' v s) (he : execOp a.eval o = (do pure (.value (← s)))) : EffR P c m w m' v q o a := by
  obtain ⟨c', w', z, h1, h2, h3⟩ := h
  intro hnd r K Q hK
  refine wpIn_of hnd ?_
  rw [he, Sem.run_bind, h2, Result.andThen_ok, Sem.run_pure]
  exact hK c' w' z hq h1 h3

theorem EffR.of_unit {o : Oper} {w' : World} {s : Sem Unit} (hq : PcR c.ρ q) (h : Step c m w c m' w') (hr : s.run P w = .ok () w') (he : execOp a.eval o = (do s; pure .skip)) : EffR P c m w m' undefV q o a := by
  intro hnd r K Q hK
  refine wpIn_of hnd ?_
  rw [he, Sem.run_bind, hr, Result.andThen_ok, Sem.run_pure]
  exact hK c w' undef hq h VR.undef

theorem noDepth {r : Option Nat} : (Fr r).depth.isSome = true → 1 ≤ 0 := fun h => nomatch h

theorem EffR.of_call {o : Oper} {f : FuncId} {args : Array Value} {v : V} (h : CallOK P f args c m w m' v q) (he : (execOp a.eval o).run P w = .ok (.enter f args) w) : EffR P c m w m' v q o a := by
  intro hnd r K Q hK
  refine wpIn_of hnd ?_
  rw [he, Oper.uponIn_enter]
  refine ⟨noDepth, callsIn_Fr.2 (Calls.mono h.2 fun e w' hR => ?_)⟩
  obtain ⟨c', z, rfl, h1, h2, h3⟩ := hR
  exact hK c' w' z h3 h1 h2

theorem EffR.of_yield {o : Oper} {i : Nat} {args : Array Value} {v : V} (h : YldOK P i args c m w m' v q) (he : (execOp a.eval o).run P w = (Instr.yield (c.β i).1 args).run P w) : EffR P c m w m' v q o a := by
  intro hnd r K Q hK
  refine wpIn_of hnd ?_
  obtain ⟨fn, tmps, assign, body, h1, h2⟩ := h
  rw [he, h1, Oper.uponIn_round]
  refine ⟨noDepth, roundIn_Fr (RoundIn.mono h2 fun e w' hR => ?_)⟩
  obtain ⟨c', z, rfl, h1, h2, h3⟩ := hR
  exact hK c' w' z h3 h1 h2

theorem skipV_gives {x : M Unit} {v : V} (h : (skipV x).gives c.ρ m p v m' q) : v = undefV ∧ x.gives c.ρ m p () m' q := by
  obtain ⟨u, m1, p1, h1, h2⟩ := M.gives_bnd h
  obtain ⟨rfl, rfl, rfl⟩ := M.gives_pure h2
  exact ⟨rfl, h1⟩

theorem methodOf_some {t : TypeId} {name : String} {r : FuncId × Bool} (h : methodOf P t name = some r) : ∃ i mt, P.info? t = some i ∧ i.methods.find? (·.name == name) = some mt ∧ mt.path.toList = [] ∧ mt.func = some r := by
  unfold methodOf at h
  split at h
  · simp at h
  · rename_i i hi
    split at h
    · simp at h
    · rename_i mt hmt
      split at h
      · rename_i hp; exact ⟨i, mt, hi, hmt, hp, h⟩
      · simp at h

theorem recv_ok (hm : MemR c m w) (hp : PcR c.ρ p) {t : TypeId} {pr : Bool} {v y : V} {x : Value} {wr : Option String} (hv : VR c v x) (h : (recvR P t v pr).gives c.ρ m p y q) :
    q = p ∧ ∃ z, (receiverAt t (.val x) pr wr).run P w = .ok z w ∧ VR c y z := by
  unfold recvR at h
  cases he : ptrElem P t with
  | none =>
    rw [he] at h
    obtain ⟨h1, h2⟩ := R.gives_if (show (selB (andB (hasT P t) (notB pr)) (R.pure v) (R.fail "method a pointers")).gives c.ρ m p y q from h)
    obtain ⟨rfl, rfl⟩ := R.gives_pure h2
    obtain ⟨h3, h4⟩ := andB_iff.1 h1
    obtain ⟨d, hu⟩ := hasT_iff h3
    cases pr with
    | true => exact absurd h4 (by simp [notB])
    | false =>
      refine ⟨rfl, x, ?_, hv⟩
      have hnp : ∀ e, d ≠ .pointer e := by
        rintro e rfl
        unfold ptrElem at he
        rw [hu] at he
        simp at he
      cases d <;> first | exact absurd rfl (hnp _) | simp [receiverAt, run_und hu, Place.get]
  | some el =>
    rw [he] at h
    have hu := ptrElem_some he
    have h : (selB pr (R.pure v) (loadPtr P el v)).gives c.ρ m p y q := h
    cases pr with
    | true =>
      obtain ⟨rfl, rfl⟩ := R.gives_pure (show (R.pure v).gives c.ρ m p y q from h)
      exact ⟨rfl, x, by simp [receiverAt, run_und hu, Place.get], hv⟩
    | false =>
      obtain ⟨rfl, i, o, rfl, z, h1, h2⟩ := loadPtr_ok hm hp hv (show (loadPtr P el v).gives c.ρ m p y q from h)
      refine ⟨rfl, z, ?_, h2⟩
      cases wr with
      | none => simp [receiverAt, run_und hu, Place.get, asAddr, h1]
      | some s =>
        have hw : (Builtin.ssaWrapNilChk_ #[t] t #[.pointer (some (c.ad i o)), strVal "", strVal s]).run P w = .ok (.pointer (some (c.ad i o))) w := rfl
        simp [receiverAt, run_und hu, Place.get, asAddr, h1, hw]

theorem method_ok (hm : MemR c m w) (hp : PcR c.ρ p) {t : TypeId} {name : String} {f : FuncId} {pr : Bool} {v y : V} {x : Value} (k : Nat) (hmo : methodOf P t name = some (f, pr)) (hv : VR c v x) (h : (recvR P t v pr).gives c.ρ m p y q) :
    q = p ∧ ∃ z, (method (k + 1) t x name).run P w = .ok (f, z) w ∧ VR c y z := by
  obtain ⟨i, mt, hi, hf, hpa, hfn⟩ := methodOf_some hmo
  obtain ⟨rfl, z, h1, h2⟩ := recv_ok (wr := if mt.path.isEmpty then some ((name.splitOn ".").getLastD name) else none) hm hp hv h
  refine ⟨rfl, z, ?_, h2⟩
  simp only [method, Sem.run_bind, run_info hi, Result.andThen_ok, hf, hpa, follow, Sem.run_pure, hfn, h1]

theorem invoke_ok (hm : MemR c m w) (hp : PcR c.ρ p) (hg : GlobR c) {cf : FuncId → List V → M V} (hcf : CallsOK P c.ρ cf) {name : String} {rv v : V} {R' : Value} {l : List V} {args : Array Value} (hr : VR c rv R') (hl : VRs c l args.toList)
    (h : (invokeM P cf name rv l).gives c.ρ m p v m' q) : ∃ f args', CallOK P f args' c m w m' v q ∧ (callMethod R' name args).run P w = .ok (.enter f args') w := by
  obtain ⟨t, y, rfl, h1⟩ := onIfaceM_gives (s := "a method of nil") (show (onIface rv (fun t v => (Option.rec (M.fail "no method") (fun a => (recvR P t v a.2).thn fun x => cfq cf a.1 (x :: l)) (methodOf P t name) : M V)) (M.fail "a method of nil")).gives c.ρ m p v m' q from h)
  obtain ⟨Y, rfl, hy⟩ := VR.iface.1 hr
  cases hmo : methodOf P t name with
  | none => simp only [hmo] at h1; exact (M.gives_fail h1).elim
  | some r =>
    obtain ⟨f, pr⟩ := r
    simp only [hmo] at h1
    obtain ⟨x, p1, h2, h3⟩ := R.gives_thn (show ((recvR P t y pr).thn fun x => cfq cf f (x :: l)).gives c.ρ m p v m' q from h1)
    obtain ⟨k, hk⟩ : ∃ k, P.types.size + Made.depth = k + 1 := ⟨P.types.size + 99, rfl⟩
    obtain ⟨rfl, z, h4, h5⟩ := method_ok (w := w) hm hp k hmo hy h2
    have hargs : VRs c (x :: l) (#[z] ++ args).toList := by
      rw [Array.toList_append]; exact VRs.cons h5 hl
    obtain ⟨hne, h3⟩ := cfq_gives h3
    have h7 := hcf.1 f (x :: l) c m m' w p1 q v (#[z] ++ args) hne rfl hm hp hg hargs h3
    refine ⟨f, #[z] ++ args, h7, ?_⟩
    rw [← hk] at h4
    have hprog : (program).run P w = .ok P w := rfl
    simp only [callMethod, Sem.run_bind, hprog, Result.andThen_ok, h4, run_callFunc h7.1]
end ops

end Go.Sy

/-
  What is proved here: the evaluator's answers for functions without a body are the model's.
  Conditions: none.
-/
namespace Go.Sy

section ops
variable {P : Program} {c : Cx} {m : Mem} {w : World} {p q : Pc}

def extName : Nat → String
  | 0 => "internal/bytealg.CountString"
  | _ => "internal/bytealg.IndexByteString"

theorem extNo_some {f : FuncId} {n : Nat} (h : extNo P f = n + 1) : n < 2 ∧ ∃ fn, P.funcs[f]? = some fn ∧ fn.body.isNone = true ∧ fn.origin = "" ∧ fn.name = extName n := by
  unfold extNo at h
  split at h
  · rename_i fn hf
    cases hb : (fn.body.isNone && fn.origin == "") with
    | false => rw [hb] at h; exact nomatch h
    | true =>
      rw [hb] at h
      rw [Bool.and_eq_true, beq_iff_eq] at hb
      cases h1 : fn.name == "internal/bytealg.CountString" with
      | true =>
        rw [h1] at h
        have h : 1 = n + 1 := h
        obtain rfl : n = 0 := by omega
        exact ⟨by omega, fn, hf, hb.1, hb.2, (beq_iff_eq.1 h1 :)⟩
      | false =>
        rw [h1] at h
        cases h2 : fn.name == "internal/bytealg.IndexByteString" with
        | true =>
          rw [h2] at h
          have h : 2 = n + 1 := h
          obtain rfl : n = 1 := by omega
          exact ⟨by omega, fn, hf, hb.1, hb.2, (beq_iff_eq.1 h2 :)⟩
        | false => rw [h2] at h; exact nomatch h
  · exact nomatch h

def extSem : Nat → Array Value → Sem Value
  | 0 => Extern.BytealgCount.count
  | _ => Extern.BytealgIndexByte.indexByte

theorem ext_find {fn : Func} {n : Nat} (hn : n < 2) (ho : fn.origin = "") (h : fn.name = extName n) : Extern.findNext fn = none ∧ Extern.find fn = some (extSem n) := by
  unfold Extern.findNext Extern.find
  rw [ho, h]
  have hc : n = 0 ∨ n = 1 := by omega
  rcases hc with rfl | rfl
  · have e1 : Extern.allNextRows.lookup (extName 0) = none := by kernel_rfl
    have e2 : Extern.allNextRows.lookup "" = none := by kernel_rfl
    have e3 : Extern.allGenericRows.lookup (extName 0) = none := by kernel_rfl
    have e4 : Extern.allTypedRows.lookup (extName 0) = none := by kernel_rfl
    have e5 : Extern.allRows.lookup (extName 0) = some (extSem 0) := by kernel_rfl
    simp only [e1, e2, e3, e4, e5]
    exact ⟨rfl, rfl⟩
  · have e1 : Extern.allNextRows.lookup (extName 1) = none := by kernel_rfl
    have e2 : Extern.allNextRows.lookup "" = none := by kernel_rfl
    have e3 : Extern.allGenericRows.lookup (extName 1) = none := by kernel_rfl
    have e4 : Extern.allTypedRows.lookup (extName 1) = none := by kernel_rfl
    have e5 : Extern.allRows.lookup (extName 1) = some (extSem 1) := by kernel_rfl
    simp only [e1, e2, e3, e4, e5]
    exact ⟨rfl, rfl⟩

theorem cntR_ok {e : E} {x : UInt8} (he : e.den c.ρ = (x.toNat : Int)) : ∀ {l : List E} {bs : List UInt8} {n r : Nat} {p : Pc}, PcR c.ρ p → BR c l bs → (cntR e l n).gives c.ρ m p r q → PcR c.ρ q ∧ r = n + Lib.countByte bs x
  | [], bs, n, r, p, hp, hb, h => by
    obtain ⟨rfl, rfl⟩ := R.gives_pure (show (R.pure n).gives c.ρ m p r q from h)
    rw [BR.nil_iff] at hb; subst hb
    exact ⟨hp, by simp [Lib.countByte]⟩
  | b :: l, bs, n, r, p, hp, hb, h => by
    obtain ⟨y, ys, rfl, h1, h2⟩ := BR.cons_iff.1 hb
    obtain ⟨v, p1, h3, h4⟩ := R.gives_bnd (show ((decR (mkEq b e)).bnd fun v => cntR e l (selB v (Nat.succ n) n)).gives c.ρ m p r q from h)
    obtain ⟨h5, h6⟩ := decR_gives hp h3
    rw [mkEq_den, h1, he] at h5
    obtain ⟨h7, h8⟩ := cntR_ok he h6 h2 h4
    refine ⟨h7, ?_⟩
    rw [h8]
    cases v with
    | true =>
      have hy : y = x := byte_eq.1 (by simpa using h5)
      subst hy
      show Nat.succ n + _ = _
      simp [Lib.countByte]; omega
    | false =>
      have hy : y ≠ x := fun e => by subst e; simp at h5
      show n + _ = _
      simp [Lib.countByte, hy]

theorem lenN_ok' {n : Nat} {v : V} (h : (lenN n).gives c.ρ m p v q) : q = p ∧ VR c v (.int .i64 (n : Int)) := lenN_ok h

theorem idxR_ok {e : E} {x : UInt8} (he : e.den c.ρ = (x.toNat : Int)) : ∀ {l : List E} {bs : List UInt8} {i : Nat} {v : V} {p : Pc}, PcR c.ρ p → BR c l bs → (idxR e l i).gives c.ρ m p v q →
    PcR c.ρ q ∧ VR c v (.int .i64 (if Lib.indexByte bs x = -1 then -1 else (i : Int) + Lib.indexByte bs x)) ∧ -1 ≤ Lib.indexByte bs x
  | [], bs, i, v, p, hp, hb, h => by
    obtain ⟨rfl, rfl⟩ := R.gives_pure (show (R.pure (V.int .i64 (.n (-1)))).gives c.ρ m p v q from h)
    rw [BR.nil_iff] at hb; subst hb
    refine ⟨hp, ?_, by simp [Lib.indexByte]⟩
    simp only [Lib.indexByte, if_true]
    exact VR.int.2 ⟨rfl, show kMin .i64 ≤ -1 by decide, show -1 ≤ kMax .i64 by decide⟩
  | b :: l, bs, i, v, p, hp, hb, h => by
    obtain ⟨y, ys, rfl, h1, h2⟩ := BR.cons_iff.1 hb
    obtain ⟨u, p1, h3, h4⟩ := R.gives_bnd (show ((decR (mkEq b e)).bnd fun v => (Bool.rec (idxR e l (Nat.succ i)) (lenN i) v : R V)).gives c.ρ m p v q from h)
    obtain ⟨h5, h6⟩ := decR_gives hp h3
    rw [mkEq_den, h1, he] at h5
    cases u with
    | true =>
      have hy : y = x := byte_eq.1 (by simpa using h5)
      subst hy
      obtain ⟨rfl, h7⟩ := lenN_ok' (show (lenN i).gives c.ρ m p1 v q from h4)
      exact ⟨h6, by simpa [Lib.indexByte] using h7, by simp [Lib.indexByte]⟩
    | false =>
      have hy : (y == x) = false := by
        cases hb : y == x with
        | false => rfl
        | true => rw [beq_iff_eq] at hb; subst hb; simp at h5
      obtain ⟨h7, h8, h9⟩ := idxR_ok he h6 h2 (show (idxR e l (Nat.succ i)).gives c.ρ m p1 v q from h4)
      by_cases hr : Lib.indexByte ys x = -1
      · rw [if_pos hr] at h8
        refine ⟨h7, ?_, by simp [Lib.indexByte, hy, hr]⟩
        rw [if_pos (by simp [Lib.indexByte, hy, hr])]
        exact h8
      · rw [if_neg hr] at h8
        have hv : Lib.indexByte (y :: ys) x = Lib.indexByte ys x + 1 := by simp [Lib.indexByte, hy, hr]
        refine ⟨h7, ?_, by omega⟩
        rw [if_neg (by omega), hv]
        have : ((Nat.succ i : Nat) : Int) + Lib.indexByte ys x = (i : Int) + (Lib.indexByte ys x + 1) := by push_cast; omega
        rw [this] at h8
        exact h8

theorem ext_ok (hp : PcR c.ρ p) {f : FuncId} {n : Nat} (hx : extNo P f = n + 1) {l : List V} {args : Array Value} (hl : VRs c l args.toList) {v : V} (h : (extR n l).gives c.ρ m p v q) :
    PcR c.ρ q ∧ ∃ z, (callFunc f args).run P w = .ok (.value z) w ∧ VR c v z := by
  obtain ⟨hn, fn, hf, hb, ho, hname⟩ := extNo_some hx
  obtain ⟨e1, e2⟩ := ext_find hn ho hname
  have hng : (fn.name == "runtime.NumGoroutine") = false := by
    rw [hname]
    have hc : n = 0 ∨ n = 1 := by omega
    rcases hc with rfl | rfl <;> decide +kernel
  have hrun := fun args => run_callFunc_extern hf hng hb e1 e2 args w
  obtain ⟨s, b, rfl, h1⟩ : ∃ s b, l = [s, b] ∧ (onStr s (fun l => onInt b (fun k e => selB (Nat.beq (kindNo k) 4) (Nat.rec ((cntR e l 0).bnd lenN) (fun _ _ => idxR e l 0) n : R V) (R.fail "extern")) (R.fail "extern")) (R.fail "extern")).gives c.ρ m p v q := by
    cases l with
    | nil => exact (R.gives_fail (s := "extern") h).elim
    | cons s r =>
      cases r with
      | nil => exact (R.gives_fail (s := "extern") h).elim
      | cons b r =>
        cases r with
        | nil => exact ⟨s, b, rfl, h⟩
        | cons _ _ => exact (R.gives_fail (s := "extern") h).elim
  obtain ⟨es, rfl, h2⟩ := onStr_gives h1
  obtain ⟨k, e, rfl, h3⟩ := onInt_gives h2
  obtain ⟨h4, h5⟩ := R.gives_if h3
  have hk : k = .u8 := kindNo_inj (k' := .u8) h4
  subst hk
  obtain ⟨X, r1, hX, g1, g2⟩ := VRs.cons_iff.1 hl
  obtain ⟨Y, r2, hY, g3, g4⟩ := VRs.cons_iff.1 g2
  rw [VRs.nil_iff] at g4
  subst g4 hY
  have hargs : args = #[X, Y] := by rw [← Array.toArray_toList (xs := args), hX]
  subst hargs
  obtain ⟨st, rfl, gs⟩ := VR.str.1 g1
  obtain ⟨rfl, gi0, gi1⟩ := VR.int.1 g3
  have gi0 : 0 ≤ e.den c.ρ := gi0
  have gi1 : e.den c.ρ ≤ 255 := gi1
  have hxe : e.den c.ρ = (((e.den c.ρ).toNat.toUInt8).toNat : Int) := by
    have : (e.den c.ρ).toNat < 256 := by omega
    rw [Nat.toUInt8, UInt8.toNat_ofNat', Nat.mod_eq_of_lt this]; omega
  have hc : n = 0 ∨ n = 1 := by omega
  rcases hc with rfl | rfl
  · obtain ⟨k, p1, h6, h7⟩ := R.gives_bnd (show ((cntR e es 0).bnd lenN).gives c.ρ m p v q from h5)
    obtain ⟨h8, h9⟩ := cntR_ok hxe hp gs h6
    obtain ⟨rfl, h10⟩ := lenN_ok' h7
    refine ⟨h8, _, ?_, h10⟩
    rw [hrun]
    show ((Extern.BytealgCount.count #[.string st, .int .u8 (e.den c.ρ)]).run P w).andThen _ = _
    rw [Lib.run_countString, h9, Nat.zero_add]; rfl
  · obtain ⟨h8, h9, h10⟩ := idxR_ok hxe hp gs (show (idxR e es 0).gives c.ρ m p v q from h5)
    refine ⟨h8, _, ?_, h9⟩
    rw [hrun]
    show ((Extern.BytealgIndexByte.indexByte #[.string st, .int .u8 (e.den c.ρ)]).run P w).andThen _ = _
    rw [Lib.run_indexByteString]
    simp only [Result.andThen]
    congr 2
    split
    · rename_i hh; rw [hh]
    · simp
end ops

end Go.Sy

/-
  What is proved here: each operation that writes, or calls, does what the model's does.
  Conditions: none.
-/
namespace Go.Sy

section ops
variable {P : Program} {c : Cx} {m m' : Mem} {w : World} {p q : Pc} {n : Nat} {env : Env} {a : Act}

theorem catV_arr {l l' : List V} {xs ys : Array Value} (h : VRs c l xs.toList) (h' : VRs c l' ys.toList) : VRs c (catV l l') (xs ++ ys).toList := by
  rw [catV_eq, Array.toList_append]; exact h.append h'

theorem ef_ok (hm : MemR c m w) (hp : PcR c.ρ p) (he : EnvR c n env a) {cf : FuncId → List V → M V} (hcf : CallsOK P c.ρ cf) {o : Oper} {f : M V} {v : V} (hk : evKind o.op P cf env = .ef f) (h : f.gives c.ρ m p v m' q) :
    EffR P c m w m' v q o a := by
  have none : (M.fail "an operation" : M V).gives c.ρ m p v m' q → EffR P c m w m' v q o a := fun h => (M.gives_fail h).elim
  cases ho : o.op <;> rw [ho] at hk <;> first | exact (Kd.rd_ef hk).elim | exact (Kd.al_ef hk).elim | (have hk : Kd.ef (M.fail "an operation") = .ef f := hk; simp only [Kd.ef.injEq] at hk; subst hk; exact none h) | skip
  case insert t mp k x =>
    have hk : Kd.ef (skipV (mapUpdateM P t (opd mp env) (opd k env) (opd x env))) = .ef f := hk
    simp only [Kd.ef.injEq] at hk; subst hk
    obtain ⟨rfl, h1⟩ := skipV_gives h
    obtain ⟨h2, w', h3, h4⟩ := mapUpdate_ok hm hp (opd_ok he mp) (opd_ok he k) (opd_ok he x) h1
    exact EffR.of_unit h2 h3 h4 (by unfold execOp; rw [ho])
  case range t x =>
    have hk : Kd.ef (rangeZ P t (opd x env)) = .ef f := hk
    simp only [Kd.ef.injEq] at hk; subst hk
    have h1 := rangeZ_ok (P := P) hm (opd_ok he x) h
    exact EffR.of_value (h1.1 ▸ hp) h1.2 (by unfold execOp; rw [ho])
  case next x s =>
    have hk : Kd.ef (nextM s (opd x env)) = .ef f := hk
    simp only [Kd.ef.injEq] at hk; subst hk
    have h1 := next_ok (P := P) (ty := o.type) hm hp (opd_ok he x) h
    exact EffR.of_value (h1.1 ▸ hp) h1.2 (by unfold execOp; rw [ho])
  case store t x y =>
    have hk : Kd.ef (skipV (storeM P t (opd x env) (opd y env))) = .ef f := hk
    simp only [Kd.ef.injEq] at hk; subst hk
    obtain ⟨rfl, h1⟩ := skipV_gives h
    obtain ⟨rfl, w', h3, h4⟩ := storeM_ok hm (opd_ok he x) (opd_ok he y) h1
    exact EffR.of_unit hp h3 h4 (by unfold execOp; rw [ho])
  case convert s d x =>
    have hk : (Bool.rec (Bool.rec (Kd.rd (convR P s d (opd x env))) (.ef (markM (opd x env))) (markT P s d)) (.ef (bytesM P d (opd x env))) (toSlice P s d) : Kd) = .ef f := hk
    cases hs : toSlice P s d <;> rw [hs] at hk
    · cases hmk : markT P s d <;> rw [hmk] at hk
      · exact (Kd.rd_ef hk).elim
      · simp only [Kd.ef.injEq] at hk; subst hk
        obtain ⟨rfl, h1⟩ := markM_ok hm (opd_ok he x) hmk h
        exact EffR.of_value hp h1 (by unfold execOp; rw [ho])
    · simp only [Kd.ef.injEq] at hk; subst hk
      have hs' : isStrT P s = true := by unfold toSlice at hs; simp at hs; exact hs.1
      obtain ⟨rfl, h1⟩ := bytesM_ok hm (opd_ok he x) hs' h
      exact EffR.of_value hp h1 (by unfold execOp; rw [ho])
  case mapUpdate t mp k x =>
    have hk : Kd.ef (skipV (mapUpdateM P t (opd mp env) (opd k env) (opd x env))) = .ef f := hk
    simp only [Kd.ef.injEq] at hk; subst hk
    obtain ⟨rfl, h1⟩ := skipV_gives h
    obtain ⟨h2, w', h3, h4⟩ := mapUpdate_ok hm hp (opd_ok he mp) (opd_ok he k) (opd_ok he x) h1
    exact EffR.of_unit h2 h3 h4 (by unfold execOp; rw [ho])
  case mapEntry t mp k =>
    have hk : Kd.ef (mapEntryM P t (opd mp env) (opd k env)) = .ef f := hk
    simp only [Kd.ef.injEq] at hk; subst hk
    obtain ⟨h1, h2⟩ := mapEntry_ok hm hp (opd_ok he mp) (opd_ok he k) h
    exact EffR.of_value h1 h2 (by unfold execOp; rw [ho])
  case entryStore t mp s x =>
    have hk : Kd.ef (skipV (entryStoreM (opd mp env) (opd s env) (opd x env))) = .ef f := hk
    simp only [Kd.ef.injEq] at hk; subst hk
    obtain ⟨rfl, h1⟩ := skipV_gives h
    obtain ⟨rfl, w', h3, h4⟩ := entryStore_ok (t := t) (P := P) hm hp (opd_ok he mp) (opd_ok he s) (opd_ok he x) h1
    exact EffR.of_unit hp h3 h4 (by unfold execOp; rw [ho])
  case call cl =>
    rw [show evKind (Op.call cl) = hCall cl from rfl] at hk
    unfold hCall at hk
    have hargs := opds_arr he cl.args
    cases hc : cl.callee with
    | value g =>
      rw [hc] at hk
      have hk : Kd.ef (callV P cf (opd g env) (opds cl.args.toList env)) = .ef f := hk
      simp only [Kd.ef.injEq] at hk; subst hk
      have hg := opd_ok he g
      cases hgv : opd g env <;> rw [hgv] at h hg <;> try exact (M.gives_fail (s := "call of what") h).elim
      case yld i =>
        obtain ⟨hi, hx⟩ := VR.yld.1 hg
        have h4 := hcf.2 i _ c m m' w p q v (cl.args.map a.eval) rfl hm hp he.glob hi hargs (show (cf yId (.yld i :: opds cl.args.toList env)).gives c.ρ m p v m' q from h)
        refine EffR.of_yield h4 ?_
        unfold execOp
        rw [ho]
        simp [resolve, hc, hx, Deferred.ofValue, invoke]
      case func fn fa fb =>
        obtain ⟨as, bs, hx, h1, h2⟩ := VR.func.1 hg
        cases fn <;> try exact (M.gives_fail (s := "call of a methods value") h).elim
        case func fid =>
          have h : (cfx P cf fid (catV fa (catV (opds cl.args.toList env) fb))).gives c.ρ m p v m' q := h
          have hall := catV_arr h1 (catV_arr hargs h2)
          cases hx0 : extNo P fid with
          | zero =>
            have h : (Nat.rec (cfq cf fid (catV fa (catV (opds cl.args.toList env) fb))) (fun n _ => (extR n (catV fa (catV (opds cl.args.toList env) fb))).thn M.pure) (extNo P fid) : M V).gives c.ρ m p v m' q := h
            rw [hx0] at h
            obtain ⟨hne, h⟩ := cfq_gives (show (cfq cf fid (catV fa (catV (opds cl.args.toList env) fb))).gives c.ρ m p v m' q from h)
            have h4 := hcf.1 fid _ c m m' w p q v (as ++ (cl.args.map a.eval ++ bs)) hne rfl hm hp he.glob hall h
            refine EffR.of_call h4 ?_
            have hrun := run_callFunc (w := w) h4.1 (as ++ (cl.args.map a.eval ++ bs))
            unfold execOp
            rw [ho]
            simp [resolve, hc, hx, Deferred.ofValue, invoke, hrun]
          | succ n =>
            have h : (Nat.rec (cfq cf fid (catV fa (catV (opds cl.args.toList env) fb))) (fun n _ => (extR n (catV fa (catV (opds cl.args.toList env) fb))).thn M.pure) (extNo P fid) : M V).gives c.ρ m p v m' q := h
            rw [hx0] at h
            obtain ⟨v1, p1, h5, h6⟩ := R.gives_thn (show ((extR n (catV fa (catV (opds cl.args.toList env) fb))).thn M.pure).gives c.ρ m p v m' q from h)
            obtain ⟨rfl, rfl, rfl⟩ := M.gives_pure h6
            obtain ⟨hq, z, hrun, hz⟩ := ext_ok (w := w) hp hx0 hall h5
            intro hnd r K Q hK
            refine wpIn_of hnd ?_
            have hex : (execOp a.eval o).run P w = .ok (.value z) w := by
              unfold execOp
              rw [ho]
              simp [resolve, hc, hx, Deferred.ofValue, invoke, hrun]
            rw [hex]
            exact hK c w z hq (Step.refl hm) hz
        case method nm =>
          have h : (onHead (catV fa (opds cl.args.toList env)) (fun r l => invokeM P cf nm r l) (M.fail "call")).gives c.ρ m p v m' q := h
          have hall := catV_arr h1 hargs
          cases hl : catV fa (opds cl.args.toList env) with
          | nil => rw [hl] at h; exact (M.gives_fail (s := "call") h).elim
          | cons r rest =>
            rw [hl] at h hall
            obtain ⟨R', rest', hR, hr, hrest⟩ := VRs.cons_iff.1 hall
            obtain ⟨g', args', g2, g3⟩ := invoke_ok (w := w) (args := rest'.toArray) hm hp he.glob hcf hr (by simpa using hrest) (show (invokeM P cf nm r rest).gives c.ρ m p v m' q from h)
            refine EffR.of_call g2 ?_
            have harr : as ++ cl.args.map a.eval = #[R'] ++ rest'.toArray := by
              apply Array.ext'
              rw [hR]
              simp
            have hx0 : (as ++ cl.args.map a.eval)[0]? = some R' := by rw [harr, ← Array.getElem?_toList]; simp
            have hx1 : (as ++ cl.args.map a.eval).extract 1 (as ++ cl.args.map a.eval).size = rest'.toArray := by
              rw [harr]
              apply Array.ext'
              simp
            unfold execOp
            rw [ho]
            simp only [resolve, hc, hx, Deferred.ofValue, Sem.run_bind, Sem.run_pure, Result.andThen_ok, invoke, hx0, hx1, g3]
    | invoke r nm =>
      rw [hc] at hk
      have hk : Kd.ef (invokeM P cf nm (opd r env) (opds cl.args.toList env)) = .ef f := hk
      simp only [Kd.ef.injEq] at hk; subst hk
      obtain ⟨g, args', h2, h3⟩ := invoke_ok hm hp he.glob hcf (opd_ok he r) hargs h
      refine EffR.of_call h2 ?_
      unfold execOp
      rw [ho]
      have hx0 : (#[a.eval r] ++ Array.map a.eval cl.args)[0]? = some (a.eval r) := by rw [← Array.getElem?_toList]; simp
      have hx1 : (Array.map a.eval cl.args).extract 0 cl.args.size = Array.map a.eval cl.args := by
        have := Array.extract_size (xs := Array.map a.eval cl.args)
        rwa [Array.size_map] at this
      simp [resolve, hc, invoke, hx0, hx1, h3]
    | builtin b =>
      rw [hc] at hk
      cases b <;> first | exact (Kd.rd_ef hk).elim | (have hk : Kd.ef (M.fail "an operation") = .ef f := hk; simp only [Kd.ef.injEq] at hk; subst hk; exact none h) | skip
      case append =>
        have hk : Kd.ef (onT cl.argTypes.toList (fun t us => on2 (opds cl.args.toList env) (appendT P t us) (M.fail "append")) (M.fail "append")) = .ef f := hk
        simp only [Kd.ef.injEq] at hk; subst hk
        obtain ⟨t, us, ht, h1⟩ := onTM_gives h
        obtain ⟨x, y, r, hx, h2⟩ := on2_gives h1
        obtain ⟨X, Y, hX, hY, hxr, hyr⟩ := head2_arr hargs hx
        obtain ⟨rfl, h3⟩ := appendT_ok (ty := o.type) hm hp ht hX hY hxr hyr h2
        exact EffR.of_value hp h3 (by unfold execOp; rw [ho]; simp [resolve, hc, invoke, builtin])
      case copy =>
        have hk : Kd.ef (onT cl.argTypes.toList (fun t _ => on2 (opds cl.args.toList env) (copyM P t) (M.fail "copy")) (M.fail "copy")) = .ef f := hk
        simp only [Kd.ef.injEq] at hk; subst hk
        obtain ⟨t, us, ht, h1⟩ := onTM_gives h
        obtain ⟨x, y, r, hx, h2⟩ := on2_gives h1
        obtain ⟨X, Y, hX, hY, hxr, hyr⟩ := head2_arr hargs hx
        obtain ⟨rfl, h3⟩ := copyM_ok (ty := o.type) (ts := cl.argTypes) hm hp (by rw [← Array.getElem?_toList, ht]; rfl) hX hY hxr hyr h2
        exact EffR.of_value hp h3 (by unfold execOp; rw [ho]; simp [resolve, hc, invoke, builtin])
      case clear =>
        have hk : Kd.ef (onT cl.argTypes.toList (fun t _ => on1 (opds cl.args.toList env) (clearM P t) (M.fail "clear")) (M.fail "clear")) = .ef f := hk
        simp only [Kd.ef.injEq] at hk; subst hk
        obtain ⟨t, us, ht, h1⟩ := onTM_gives h
        cases hl : opds cl.args.toList env with
        | nil => rw [hl] at h1; exact (M.gives_fail (show (M.fail "clear" : M V).gives _ _ _ _ _ _ from h1)).elim
        | cons x r =>
          have hargs' := hargs
          rw [hl] at h1 hargs'
          obtain ⟨X, ys, hxs, hxr, _⟩ := VRs.cons_iff.1 hargs'
          obtain ⟨rfl, h3⟩ := clear_ok (ty := o.type) (ts := cl.argTypes) hm (by rw [← Array.getElem?_toList, ht]; rfl) (by rw [← Array.getElem?_toList, hxs]; rfl) hxr (show (clearM P t x).gives _ _ _ _ _ _ from h1)
          exact EffR.of_value hp h3 (by unfold execOp; rw [ho]; simp [resolve, hc, invoke, builtin])
      case delete =>
        have hk : Kd.ef (onT cl.argTypes.toList (fun t _ => on2 (opds cl.args.toList env) (deleteM P t) (M.fail "delete")) (M.fail "delete")) = .ef f := hk
        simp only [Kd.ef.injEq] at hk; subst hk
        obtain ⟨t, us, ht, h1⟩ := onTM_gives h
        obtain ⟨x, y, r, hx, h2⟩ := on2_gives h1
        obtain ⟨X, Y, hX, hY, hxr, hyr⟩ := head2_arr hargs hx
        obtain ⟨h0, h3⟩ := delete_ok (ty := o.type) (ts := cl.argTypes) hm hp (by rw [← Array.getElem?_toList, ht]; rfl) hX hY hxr hyr h2
        exact EffR.of_value h0 h3 (by unfold execOp; rw [ho]; simp [resolve, hc, invoke, builtin])
end ops

end Go.Sy

/-
  What is proved here: a row of operations in the order of the text.
  Conditions: none.
-/
namespace Go.Sy

section ops
variable {P : Program} {c : Cx} {m m' : Mem} {w : World} {p q : Pc} {n : Nat} {env env' : Env} {a : Act}

/-- behind a piece: the memory 'm'', the slots 'env'' -/
def After (c : Cx) (m : Mem) (w : World) (m' : Mem) (n : Nat) (env' : Env) (a a' : Act) (w' : World) : Prop :=
  ∃ c', Step c m w c' m' w' ∧ EnvR c' n env' a' ∧ a'.defers = a.defers

theorem put_defers (a : Act) (d : Option Nat) (v : Value) : (a.put d v).defers = a.defers := by cases d <;> rfl

theorem opM_ok (hm : MemR c m w) (hp : PcR c.ρ p) (he : EnvR c n env a) {cf : FuncId → List V → M V} (hcf : CallsOK P c.ρ cf) {o : Oper} (h : (opM o P cf n env).gives c.ρ m p env' m' q) :
    ∀ (r : Option Nat) (K : Act → World → Prop) (Q : Exit → Act → World → Prop), (∀ a' w', PcR c.ρ q → After c m w m' n env' a a' w' → K a' w') → o.wpIn (Fr r) 0 P a w K Q := by
  have hnd : ∀ cl, o.op ≠ .defer cl := fun cl e => by
    unfold opM at h
    rw [e] at h
    obtain ⟨_, _, _, h1, _⟩ := M.gives_bnd (show ((M.fail "an operation" : M V).bnd (putM o.dst n env)).gives c.ρ m p env' m' q from h)
    exact M.gives_fail h1
  unfold opM at h
  cases hk : evKind o.op P cf env with
  | rd f =>
    rw [hk] at h
    obtain ⟨v, p1, h1, h2⟩ := R.gives_thn (show (f.thn (putM o.dst n env)).gives c.ρ m p env' m' q from h)
    obtain ⟨h3, z, h4, h5⟩ := rd_ok hm hp he hk h1
    obtain ⟨rfl, rfl, h6⟩ := putM_ok (w := w) hm he h5 h2
    intro r K Q hK
    refine wpIn_of hnd ?_
    rw [h4]
    exact hK _ _ h3 ⟨c, Step.refl hm, h6, put_defers _ _ _⟩
  | al f =>
    rw [hk] at h
    obtain ⟨v, m1, p1, h1, h2⟩ := M.gives_bnd (show ((allocM f).bnd (putM o.dst n env)).gives c.ρ m p env' m' q from h)
    obtain ⟨bs, p2, h3, h4⟩ := R.gives_thn (show (f.thn fun bs => (newBlk bs.1).bnd fun i => M.pure (bs.2.val i)).gives c.ρ m p v m1 p1 from h1)
    obtain ⟨i, m2, p3, h5, h6⟩ := M.gives_bnd h4
    obtain ⟨rfl, rfl, rfl⟩ := newBlk_gives h5
    obtain ⟨rfl, rfl, rfl⟩ := M.gives_pure h6
    obtain ⟨hpq, ob, z, h7, h89⟩ := al_ok (w := w) hp he hk h3
    obtain ⟨h8, h9⟩ := h89.next
    have s1 := Step.new hm h8
    rw [hm.nb] at h9
    obtain ⟨rfl, rfl, h10⟩ := putM_ok (c := c.addB w) s1.rel (he.mono s1.le) h9 (show (putM o.dst n env _).gives (c.addB w).ρ _ _ env' m' q from h2)
    intro r K Q hK
    refine wpIn_of hnd ?_
    rw [h7]
    exact hK _ _ hpq ⟨_, s1, h10, put_defers _ _ _⟩
  | ef f =>
    rw [hk] at h
    obtain ⟨v, m1, p1, h1, h2⟩ := M.gives_bnd (show (f.bnd (putM o.dst n env)).gives c.ρ m p env' m' q from h)
    have h4 := ef_ok hm hp he hcf hk h1
    have hmm : m' = m1 ∧ q = p1 := by
      cases hd : o.dst with
      | none => rw [hd] at h2; obtain ⟨_, rfl, rfl⟩ := M.gives_pure (show (M.pure env).gives c.ρ m1 p1 env' m' q from h2); exact ⟨rfl, rfl⟩
      | some d =>
        rw [hd] at h2
        obtain ⟨_, h5⟩ := M.gives_if (show (selB (Nat.blt d n) (M.pure (env.put d v)) (M.fail "a slot beyond the frame")).gives c.ρ m1 p1 env' m' q from h2)
        obtain ⟨_, rfl, rfl⟩ := M.gives_pure h5
        exact ⟨rfl, rfl⟩
    obtain ⟨rfl, rfl⟩ := hmm
    refine fun r K Q hK => h4 hnd r K Q fun c' w' z hq h5 h6 => ?_
    have h2' : (putM o.dst n env v).gives c'.ρ m' q env' m' q := by rw [h5.le.ρ]; exact h2
    obtain ⟨_, _, h7⟩ := putM_ok h5.rel (he.mono h5.le) h6 h2'
    exact hK _ _ hq ⟨c', h5, h7, put_defers _ _ _⟩
end ops

end Go.Sy

/-
  What is proved here: guarded operations, and a region in the order of the text.
  Conditions: none.
-/
namespace Go.Sy

section ops
variable {P : Program} {c : Cx} {m m' : Mem} {w : World} {p q : Pc} {n : Nat} {env env' : Env} {a : Act} {ops : Array Oper}

/-- the bool that a value is -/
def boolOf : Value → Option Bool
  | .bool b => some b
  | _ => none

theorem guardV_ok (hp : PcR c.ρ p) {v : V} {x : Value} {want b : Bool} (hv : VR c v x) (h : (guardV v want).gives c.ρ m p b q) :
    PcR c.ρ q ∧ (boolOf x == some want) = b := by
  cases v <;> first | exact (R.gives_fail (s := "guard") h).elim | skip
  case bool e =>
    rw [VR.bool] at hv; subst hv
    obtain ⟨u, p1, h1, h2⟩ := R.gives_bnd (show ((decR e).bnd fun v => R.pure (eqB v want)).gives c.ρ m p b q from h)
    obtain ⟨h3, h4⟩ := decR_gives hp h1
    obtain ⟨rfl, rfl⟩ := R.gives_pure h2
    refine ⟨h4, ?_⟩
    show (some (e.den c.ρ) == some want) = _
    rw [h3]
    cases u <;> cases want <;> rfl
  all_goals
    obtain ⟨rfl, rfl⟩ := R.gives_pure (show (R.pure false).gives c.ρ m p b q from h)
    refine ⟨hp, ?_⟩
    have hx : ∀ b, x ≠ .bool b := by rintro b rfl; revert hv; unfold VR; simp
    cases x <;> first | rfl | exact absurd rfl (hx _)

theorem guardR_ok (hp : PcR c.ρ p) (he : EnvR c n env a) {g : Nat × Bool} {b : Bool} (h : (guardR ops g n env).gives c.ρ m p b q) :
    PcR c.ρ q ∧ (yielded ops a.tmps g.1 == some g.2) = b := by
  unfold guardR at h
  cases hs : guardSlot ops g.1 with
  | none =>
    rw [hs] at h
    obtain ⟨rfl, rfl⟩ := R.gives_pure (show (R.pure false).gives c.ρ m p b q from h)
    have hs : (ops[g.1]?).bind (·.dst) = none := hs
    exact ⟨hp, by simp [yielded, hs]⟩
  | some d =>
    rw [hs] at h
    have hs : (ops[g.1]?).bind (·.dst) = some d := hs
    obtain ⟨h1, h2⟩ := R.gives_if (show (selB (Nat.blt d n) (guardV (env d) g.2) (R.fail "guard")).gives c.ρ m p b q from h)
    rw [blt_iff] at h1
    have hd : d < a.tmps.size := by rw [he.size]; exact h1
    obtain ⟨h3, h4⟩ := guardV_ok hp (he.slot d) h2
    refine ⟨h3, ?_⟩
    rw [← h4]
    have hg : a.tmps[d]? = some (a.tmps.getD d undef) := by simp [Array.getD, hd]
    unfold yielded
    rw [hs]
    show ((match a.tmps[d]? with | some (.bool b) => some b | _ => none) == some g.2) = _
    rw [hg]
    cases a.tmps.getD d undef <;> rfl

/-- what a guarded operation does, in the middle of a row -/
theorem opG_ok (hm : MemR c m w) (hp : PcR c.ρ p) (he : EnvR c n env a) {cf : FuncId → List V → M V} (hcf : CallsOK P c.ρ cf) {o : Oper} (h : (opG ops o P cf n env).gives c.ρ m p env' m' q) :
    ∀ (r : Option Nat) (K : Act → World → Prop) (Q : Exit → Act → World → Prop), (∀ a' w', PcR c.ρ q → After c m w m' n env' a a' w' → K a' w') →
      if Region.wanted o (yielded ops a.tmps) then o.wpIn (Fr r) 0 P a w K Q else (∀ f, o.about P w a.eval = some f → (Fr r).fn f) ∧ K (a.put o.dst undef) w := by
  unfold opG at h
  cases hg : o.guard with
  | none =>
    rw [hg] at h
    have h2 := opM_ok hm hp he hcf (show (opM o P cf n env).gives c.ρ m p env' m' q from h)
    intro r K Q hK
    have : Region.wanted o (yielded ops a.tmps) = true := by unfold Region.wanted; rw [hg]
    rw [if_pos this]
    exact h2 r K Q hK
  | some g =>
    rw [hg] at h
    obtain ⟨b, p1, h1, h2⟩ := R.gives_thn (show ((guardR ops g n env).thn fun w => (Bool.rec (putM o.dst n env undefV) (opM o P cf n env) w : M Env)).gives c.ρ m p env' m' q from h)
    obtain ⟨h3, h4⟩ := guardR_ok hp he h1
    have hw : Region.wanted o (yielded ops a.tmps) = b := by unfold Region.wanted; rw [hg]; exact h4
    cases b with
    | true =>
      have h6 := opM_ok hm h3 he hcf (show (opM o P cf n env).gives c.ρ m p1 env' m' q from h2)
      intro r K Q hK
      rw [if_pos hw]
      exact h6 r K Q hK
    | false =>
      obtain ⟨rfl, rfl, h5⟩ := putM_ok hm he VR.undef (show (putM o.dst n env undefV).gives c.ρ m p1 env' m' q from h2)
      intro r K Q hK
      rw [if_neg (by rw [hw]; simp)]
      refine ⟨fun _ _ => trivial, ?_⟩
      exact hK _ _ h3 ⟨c, Step.refl hm, h5, put_defers _ _ _⟩

theorem After.trans {m1 : Mem} {a1 : Act} {w1 : World} {a2 : Act} {w2 : World} {c1 : Cx} (s : Step c m w c1 m1 w1) (d : a1.defers = a.defers) (h : After c1 m1 w1 m' n env' a1 a2 w2) : After c m w m' n env' a a2 w2 := by
  obtain ⟨c', h1, h2, h3⟩ := h
  exact ⟨c', s.trans h1, h2, h3.trans d⟩

theorem evSeq_ok {cf : FuncId → List V → M V} {ρ : Nat → Int} (hcf : CallsOK P ρ cf) : ∀ {l : List Oper} {c : Cx} {m m' : Mem} {w : World} {p q : Pc} {env env' : Env} {a : Act}, c.ρ = ρ → MemR c m w → PcR c.ρ p → EnvR c n env a → (evSeq l ops P cf n env).gives c.ρ m p env' m' q →
    ∀ (r : Option Nat) (Q : Exit → Act → World → Prop), (∀ a' w', PcR c.ρ q → After c m w m' n env' a a' w' → Q .normal a' w') → wpListIn (Fr r) 0 P ops Q l a w
  | [], c, m, m', w, p, q, env, env', a, _, hm, hp, he, h => by
    obtain ⟨rfl, rfl, rfl⟩ := M.gives_pure (show (M.pure env).gives c.ρ m p env' m' q from h)
    exact fun _ Q hQ => hQ _ _ hp ⟨c, Step.refl hm, he, rfl⟩
  | o :: l, c, m, m', w, p, q, env, env', a, hρ, hm, hp, he, h => by
    obtain ⟨env1, m1, p1, h1, h2⟩ := M.gives_bnd (show ((opG ops o P cf n env).bnd (evSeq l ops P cf n)).gives c.ρ m p env' m' q from h)
    intro r Q hQ
    have h4 := opG_ok hm hp he (by rw [hρ]; exact hcf) h1 r (wpListIn (Fr r) 0 P ops Q l) Q (fun a1 w1 hp1 hA => by
      obtain ⟨c1, s1, he1, hd⟩ := hA
      have hr := s1.le.ρ
      exact evSeq_ok hcf (hr.trans hρ) s1.rel (by rw [hr]; exact hp1) he1 (by rw [hr]; exact h2) r Q fun a2 w2 hq hA2 => hQ a2 w2 (by rw [← hr]; exact hq) (hA2.trans s1 hd))
    exact h4
end ops

end Go.Sy

/-
  What is proved here: an operation looks at its own slots alone; what an operation does, whatever the order.
  Conditions: none.
-/
namespace Go.Sy

section congr
variable {env env' : Env}

theorem opd_congr {x : Operand} (h : ∀ t, x = .tmp t → env' t = env t) : opd x env' = opd x env := by
  cases x with
  | tmp t => exact h t rfl
  | _ => rfl

theorem opds_congr : ∀ {l : List Operand}, (∀ t, Operand.tmp t ∈ l → env' t = env t) → opds l env' = opds l env
  | [], _ => rfl
  | x :: l, h => by
    show opd x env' :: opds l env' = opd x env :: opds l env
    rw [opd_congr (fun t ht => h t (ht ▸ .head _)), opds_congr (fun t ht => h t (.tail _ ht))]

theorem partsV_congr : ∀ {l : List (Nat × Operand)}, (∀ t, Operand.tmp t ∈ l.map (·.2) → env' t = env t) → partsV l env' = partsV l env
  | [], _ => rfl
  | x :: l, h => by
    show (x.1, opd x.2 env') :: partsV l env' = (x.1, opd x.2 env) :: partsV l env
    rw [opd_congr (fun t ht => h t (by rw [← ht]; exact .head _)), partsV_congr (fun t ht => h t (.tail _ ht))]

theorem optV_congr {x : Option Operand} (h : ∀ t, x = some (.tmp t) → env' t = env t) : optV x env' = optV x env := by
  cases x with
  | none => rfl
  | some x =>
    show some (opd x env') = some (opd x env)
    rw [opd_congr (fun t ht => h t (by rw [ht]))]

theorem evKind_congr {P : Program} {cf : FuncId → List V → M V} {op : Op} (h : ∀ t, Operand.tmp t ∈ op.operands → env' t = env t) : evKind op P cf env' = evKind op P cf env := by
  have o1 : ∀ {x : Operand}, x ∈ op.operands → opd x env' = opd x env := fun hx => opd_congr fun t ht => h t (ht ▸ hx)
  cases op with
  | move x =>
    show hMove x P cf env' = hMove x P cf env
    simp only [hMove, o1 (x := x) (by simp [Op.operands])]
  | assign x =>
    show hMove x P cf env' = hMove x P cf env
    simp only [hMove, o1 (x := x) (by simp [Op.operands])]
  | pick c a b =>
    show hPick c a b P cf env' = hPick c a b P cf env
    simp only [hPick, o1 (x := c) (by simp [Op.operands]), o1 (x := a) (by simp [Op.operands]), o1 (x := b) (by simp [Op.operands])]
  | alloc t => rfl
  | box t x =>
    show hBox t x P cf env' = hBox t x P cf env
    simp only [hBox, o1 (x := x) (by simp [Op.operands])]
  | insert t m k x =>
    show hUpdate t m k x P cf env' = hUpdate t m k x P cf env
    simp only [hUpdate, o1 (x := m) (by simp [Op.operands]), o1 (x := k) (by simp [Op.operands]), o1 (x := x) (by simp [Op.operands])]
  | load t a =>
    show hLoad t a P cf env' = hLoad t a P cf env
    simp only [hLoad, o1 (x := a) (by simp [Op.operands])]
  | store t a x =>
    show hStore t a x P cf env' = hStore t a x P cf env
    simp only [hStore, o1 (x := a) (by simp [Op.operands]), o1 (x := x) (by simp [Op.operands])]
  | nilCheck x =>
    show hNilCheck x P cf env' = hNilCheck x P cf env
    simp only [hNilCheck, o1 (x := x) (by simp [Op.operands])]
  | binOp op t x y u =>
    show hBin op t x y u P cf env' = hBin op t x y u P cf env
    simp only [hBin, o1 (x := x) (by simp [Op.operands]), o1 (x := y) (by simp [Op.operands])]
  | unOp op t x =>
    show hUn op t x P cf env' = hUn op t x P cf env
    simp only [hUn, o1 (x := x) (by simp [Op.operands])]
  | convert s d x =>
    show hConv s d x P cf env' = hConv s d x P cf env
    simp only [hConv, o1 (x := x) (by simp [Op.operands])]
  | makeInterface t x =>
    show hIface t x P cf env' = hIface t x P cf env
    simp only [hIface, o1 (x := x) (by simp [Op.operands])]
  | makeSlice t l c =>
    show hMakeSlice t l c P cf env' = hMakeSlice t l c P cf env
    simp only [hMakeSlice, o1 (x := l) (by simp [Op.operands]), o1 (x := c) (by simp [Op.operands])]
  | fieldAddr t x f =>
    show hFieldAddr t x f P cf env' = hFieldAddr t x f P cf env
    simp only [hFieldAddr, o1 (x := x) (by simp [Op.operands])]
  | field t x f =>
    show hField t x f P cf env' = hField t x f P cf env
    simp only [hField, o1 (x := x) (by simp [Op.operands])]
  | indexAddr t x i =>
    show hIndexAddr t x i P cf env' = hIndexAddr t x i P cf env
    simp only [hIndexAddr, o1 (x := x) (by simp [Op.operands]), o1 (x := i) (by simp [Op.operands])]
  | index t x i =>
    show hIndex t x i P cf env' = hIndex t x i P cf env
    simp only [hIndex, o1 (x := x) (by simp [Op.operands]), o1 (x := i) (by simp [Op.operands])]
  | lookup t x i ok =>
    show hLookup t x i ok P cf env' = hLookup t x i ok P cf env
    simp only [hLookup, o1 (x := x) (by simp [Op.operands]), o1 (x := i) (by simp [Op.operands])]
  | mapUpdate t m k x =>
    show hUpdate t m k x P cf env' = hUpdate t m k x P cf env
    simp only [hUpdate, o1 (x := m) (by simp [Op.operands]), o1 (x := k) (by simp [Op.operands]), o1 (x := x) (by simp [Op.operands])]
  | mapEntry t m k =>
    show hEntry t m k P cf env' = hEntry t m k P cf env
    simp only [hEntry, o1 (x := m) (by simp [Op.operands]), o1 (x := k) (by simp [Op.operands])]
  | entryStore t m s x =>
    show hEntStore t m s x P cf env' = hEntStore t m s x P cf env
    simp only [hEntStore, o1 (x := m) (by simp [Op.operands]), o1 (x := s) (by simp [Op.operands]), o1 (x := x) (by simp [Op.operands])]
  | typeAssert x t u ok =>
    show hAssert x t u ok P cf env' = hAssert x t u ok P cf env
    simp only [hAssert, o1 (x := x) (by simp [Op.operands])]
  | extract x i =>
    show hExtract x i P cf env' = hExtract x i P cf env
    simp only [hExtract, o1 (x := x) (by simp [Op.operands])]
  | build t ps =>
    show hBuild t ps P cf env' = hBuild t ps P cf env
    simp only [hBuild]
    rw [partsV_congr (fun t ht => h t (by simpa [Op.operands] using ht))]
  | buildSlice t n ps =>
    show hBuildSlice t n ps P cf env' = hBuildSlice t n ps P cf env
    simp only [hBuildSlice]
    rw [partsV_congr (fun t ht => h t (by simpa [Op.operands] using ht))]
  | makeFunc fn a b =>
    show hFunc fn a b P cf env' = hFunc fn a b P cf env
    simp only [hFunc]
    rw [opds_congr (l := a.toList) (fun t ht => h t (by simp at ht; simp [Op.operands, ht])), opds_congr (l := b.toList) (fun t ht => h t (by simp at ht; simp [Op.operands, ht]))]
  | makeMap t r =>
    cases r with
    | none => rfl
    | some x =>
      show hMakeMap t (some x) P cf env' = hMakeMap t (some x) P cf env
      simp only [hMakeMap, o1 (x := x) (by simp [Op.operands])]
  | range t x =>
    show hRange t x P cf env' = hRange t x P cf env
    simp only [hRange, o1 (x := x) (by simp [Op.operands])]
  | next x s =>
    show hNext x s P cf env' = hNext x s P cf env
    simp only [hNext, o1 (x := x) (by simp [Op.operands])]
  | slice t x l u m =>
    show hSlice t x l u m P cf env' = hSlice t x l u m P cf env
    simp only [hSlice, o1 (x := x) (by simp [Op.operands])]
    rw [optV_congr (x := l) (fun t ht => h t (by simp [Op.operands, ht])), optV_congr (x := u) (fun t ht => h t (by simp [Op.operands, ht])), optV_congr (x := m) (fun t ht => h t (by simp [Op.operands, ht]))]
  | call c =>
    have ha : opds c.args.toList env' = opds c.args.toList env := opds_congr fun t ht => h t (by
      simp at ht
      simp [Op.operands, Call.operands, ht])
    show hCall c P cf env' = hCall c P cf env
    obtain ⟨ce, args, ts⟩ := c
    cases ce with
    | value f =>
      show Kd.ef (callV P cf (opd f env') (opds args.toList env')) = Kd.ef (callV P cf (opd f env) (opds args.toList env))
      rw [ha, o1 (x := f) (by simp [Op.operands, Call.operands])]
    | invoke r nm =>
      show Kd.ef (invokeM P cf nm (opd r env') (opds args.toList env')) = Kd.ef (invokeM P cf nm (opd r env) (opds args.toList env))
      rw [ha, o1 (x := r) (by simp [Op.operands, Call.operands])]
    | builtin b =>
      have ha : opds args.toList env' = opds args.toList env := ha
      show hBuiltin b ts args P cf env' = hBuiltin b ts args P cf env
      cases b <;> (first | rfl | (show hLen ts args P cf env' = hLen ts args P cf env; simp only [hLen, ha]) | (show hCap ts args P cf env' = hCap ts args P cf env; simp only [hCap, ha]) | (show hMin _ args P cf env' = hMin _ args P cf env; simp only [hMin, ha]) | (show hAppend ts args P cf env' = hAppend ts args P cf env; simp only [hAppend, ha]) | (show hCopy ts args P cf env' = hCopy ts args P cf env; simp only [hCopy, ha]) | (show hDelete ts args P cf env' = hDelete ts args P cf env; simp only [hDelete, ha]) | (show hClear ts args P cf env' = hClear ts args P cf env; simp only [hClear, ha]))
  | _ => rfl
end congr

/-! ### what an operation does, whatever the order -/

section does
variable {P : Program} {ρ : Nat → Int} {ops : Array Oper} {n : Nat} {o : Oper} {env : Env}

theorem mem_looks {t : Nat} (h : Operand.tmp t ∈ o.op.operands) : t ∈ looks ops o := by
  unfold looks tmpsOf
  refine List.mem_append.2 (.inl (List.mem_filterMap.2 ⟨.tmp t, by simpa using h, rfl⟩))

/-- the slots that an operation looks at stand for the frame's -/
structure EnvL (c : Cx) (n : Nat) (ops : Array Oper) (o : Oper) (env : Env) (a : Act) : Prop where
  size : a.tmps.size = n
  slot : ∀ t ∈ looks ops o, VR c (env t) (a.tmps.getD t undef)
  glob : GlobR c

def lookEnv (ops : Array Oper) (o : Oper) (env : Env) : Env := fun t => if t ∈ looks ops o then env t else .bad

theorem EnvL.full {c : Cx} {a : Act} (h : EnvL c n ops o env a) : EnvR c n (lookEnv ops o env) a :=
  ⟨h.size, fun j => by
    unfold lookEnv
    split
    · rename_i hj; exact h.slot j hj
    · exact VR.bad, h.glob⟩

theorem look_kind {cf : FuncId → List V → M V} : evKind o.op P cf (lookEnv ops o env) = evKind o.op P cf env :=
  evKind_congr fun _ ht => if_pos (mem_looks ht)

theorem look_guard {g : Nat × Bool} (hg : o.guard = some g) : guardR ops g n (lookEnv ops o env) = guardR ops g n env := by
  unfold guardR
  cases hs : guardSlot ops g.1 with
  | none => rfl
  | some d =>
    have hd : d ∈ looks ops o := by
      unfold looks
      rw [hg]
      exact List.mem_append.2 (.inr (by simp [hs]))
    show selB (Nat.blt d n) (guardV (lookEnv ops o env d) g.2) (R.fail "guard") = selB (Nat.blt d n) (guardV (env d) g.2) (R.fail "guard")
    rw [show lookEnv ops o env d = env d from if_pos hd]

/-- from the memory 'M' on to 'M'', the operation's value standing for 'v' -/
def Does (P : Program) (ρ : Nat → Int) (ops : Array Oper) (n : Nat) (o : Oper) (env : Env) (u : Mem) (v : V) (u' : Mem) : Prop :=
  ∀ ⦃c : Cx⦄ ⦃w : World⦄ ⦃a : Act⦄, c.ρ = ρ → MemR c u w → EnvL c n ops o env a → ∀ (r : Option Nat) (K : Act → World → Prop) (Q : Exit → Act → World → Prop),
    (∀ c' w' z, Step c u w c' u' w' → VR c' v z → K (a.put o.dst z) w') →
      if Region.wanted o (yielded ops a.tmps) then o.wpIn (Fr r) 0 P a w K Q else (∀ f, o.about P w a.eval = some f → (Fr r).fn f) ∧ K (a.put o.dst undef) w

theorem guardO_ok {m : Mem} {p q : Pc} {b : Bool} (hp : PcR ρ p) (h : (guardO o.guard (fun g => guardR ops g n env)).gives ρ m p b q) {c : Cx} {a : Act} (hc : c.ρ = ρ) (he : EnvL c n ops o env a) :
    Region.wanted o (yielded ops a.tmps) = b := by
  subst hc
  cases hg : o.guard with
  | none =>
    rw [hg] at h
    obtain ⟨rfl, rfl⟩ := R.gives_pure (show (R.pure true).gives c.ρ m p b q from h)
    unfold Region.wanted; rw [hg]
  | some g =>
    rw [hg] at h
    have h : (guardR ops g n env).gives c.ρ m p b q := h
    rw [← look_guard hg] at h
    obtain ⟨_, h2⟩ := guardR_ok hp he.full h
    unfold Region.wanted; rw [hg]; exact h2

theorem does_no {m : Mem} {p q : Pc} (hp : PcR ρ p) (h : (guardO o.guard (fun g => guardR ops g n env)).gives ρ m p false q) (u : Mem) : Does P ρ ops n o env u undefV u := by
  intro c w a hc hm he r K Q hK
  rw [if_neg (by rw [guardO_ok hp h hc he]; simp)]
  refine ⟨fun _ _ => trivial, ?_⟩
  exact hK c w undef (Step.refl hm) VR.undef

theorem does_rd {cf : FuncId → List V → M V} {m : Mem} {p q p1 q1 : Pc} {f : R V} {v : V} {u : Mem} (hp : PcR ρ p) (h : (guardO o.guard (fun g => guardR ops g n env)).gives ρ m p true q) (hk : evKind o.op P cf env = .rd f) (hp1 : PcR ρ p1) (hf : f.gives ρ u p1 v q1) :
    Does P ρ ops n o env u v u := by
  intro c w a hc hm he r K Q hK
  rw [if_pos (guardO_ok hp h hc he)]
  subst hc
  rw [← look_kind (ops := ops) (o := o)] at hk
  obtain ⟨_, z, h4, h5⟩ := rd_ok hm hp1 he.full hk hf
  refine wpIn_of (fun cl e => by rw [e] at hk; exact Kd.ef_rd hk) ?_
  rw [h4]
  exact hK c w z (Step.refl hm) h5

theorem does_al {cf : FuncId → List V → M V} {m : Mem} {p q p1 q1 : Pc} {f : R (Blk × Shp)} {v : V} {u u' : Mem} (hp : PcR ρ p) (h : (guardO o.guard (fun g => guardR ops g n env)).gives ρ m p true q) (hk : evKind o.op P cf env = .al f) (hp1 : PcR ρ p1) (hf : (allocM f).gives ρ u p1 v u' q1) :
    Does P ρ ops n o env u v u' := by
  intro c w a hc hm he r K Q hK
  rw [if_pos (guardO_ok hp h hc he)]
  subst hc
  rw [← look_kind (ops := ops) (o := o)] at hk
  obtain ⟨bs, p2, h3, h4⟩ := R.gives_thn (show (f.thn fun bs => (newBlk bs.1).bnd fun i => M.pure (bs.2.val i)).gives c.ρ u p1 v u' q1 from hf)
  obtain ⟨i, m2, p3, h5, h6⟩ := M.gives_bnd h4
  obtain ⟨rfl, rfl, rfl⟩ := newBlk_gives h5
  obtain ⟨rfl, rfl, rfl⟩ := M.gives_pure h6
  obtain ⟨_, ob, z, h7, h89⟩ := al_ok (w := w) hp1 he.full hk h3
  obtain ⟨h8, h9⟩ := h89.next
  have s1 := Step.new hm h8
  rw [hm.nb] at h9
  refine wpIn_of (fun cl e => by rw [e] at hk; exact Kd.ef_al hk) ?_
  rw [h7]
  exact hK _ _ _ s1 h9

theorem does_ef {cf : FuncId → List V → M V} (hcf : CallsOK P ρ cf) {m : Mem} {p q p1 q1 : Pc} {f : M V} {v : V} {u u' : Mem} (hp : PcR ρ p) (h : (guardO o.guard (fun g => guardR ops g n env)).gives ρ m p true q) (hk : evKind o.op P cf env = .ef f) (hp1 : PcR ρ p1) (hf : f.gives ρ u p1 v u' q1) :
    Does P ρ ops n o env u v u' := by
  intro c w a hc hm he r K Q hK
  rw [if_pos (guardO_ok hp h hc he)]
  subst hc
  rw [← look_kind (ops := ops) (o := o)] at hk
  exact ef_ok hm hp1 he.full hcf hk hf (fun cl e => by
    rw [e] at hk
    have hk : Kd.ef (M.fail "an operation") = .ef f := hk
    simp only [Kd.ef.injEq] at hk
    subst hk
    exact M.gives_fail hf) r K Q fun c' w' z _ s1 hz => hK c' w' z s1 hz

/-- the same, for names from k0 on that may be known anew -/
def DoesN (k0 : Nat) (P : Program) (ρ : Nat → Int) (ops : Array Oper) (n : Nat) (o : Oper) (env : Env) (u : Mem) (v : V) (u' : Mem) : Prop :=
  ∀ ⦃c : Cx⦄ ⦃w : World⦄ ⦃a : Act⦄, c.ρ = ρ → MemR c u w → EnvL c n ops o env a → ∀ (r : Option Nat) (K : Act → World → Prop) (Q : Exit → Act → World → Prop),
    (∀ c' w' z, StepN k0 c u w c' u' w' → VR c' v z → K (a.put o.dst z) w') →
      if Region.wanted o (yielded ops a.tmps) then o.wpIn (Fr r) 0 P a w K Q else (∀ f, o.about P w a.eval = some f → (Fr r).fn f) ∧ K (a.put o.dst undef) w

/-- an operation that makes a block, known by the name that is kept for it -/
theorem StepN.make {c : Cx} {u : Mem} {w : World} {k0 b : Nat} {ob : Obj} {bs : Blk × Shp} {z : Value} (hm : MemR c u w) (hb : u.tr.get b = some .rsv) (hk0 : k0 ≤ b) (hn : NewR c w ob bs z) :
    ∃ c', StepN k0 c u w c' (setB u b bs.1) (w.alloc ob) ∧ VR c' (bs.2.val b) z := by
  obtain ⟨hbn, hbh⟩ := (show b < c.nb ∧ ¬ c.has b from hm.blk b .rsv hb)
  let c' : Cx := { c with β := fun i => if i = b then (w.heap.size, 0) else c.β i, has := fun i => c.has i ∨ i = b, lt := fun i h => h.elim (c.lt i) (fun h => h ▸ hbn) }
  have hβ : c'.β b = (w.heap.size, 0) := if_pos rfl
  have hβo : ∀ {i}, c.has i → c'.β i = c.β i := fun {i} hi => if_neg (fun e : i = b => hbh (e ▸ hi))
  have hle : c.leN k0 c' := ⟨rfl, Nat.le_refl _, Nat.le_refl _, fun _ h => .inl h, fun i hi h => h.elim id (fun e => by omega), fun i hi => hβo hi, fun _ _ => rfl⟩
  obtain ⟨hwr, hnew⟩ := hn
  obtain ⟨hB, hV⟩ := hnew k0 c' b hle (.inr rfl) hβ
  have hlt : ∀ i b', u.tr.get i = some b' → b'.live c → c.has i ∧ (c.β i).1 < w.heap.size := fun i b' h hl => ⟨((hm.blk i b' h).live hl).1, ((hm.blk i b' h).live hl).2.lt hl⟩
  have hget : ∀ i b', (setB u b bs.1).tr.get i = some b' → i = b ∧ b' = bs.1 ∨ i ≠ b ∧ u.tr.get i = some b' := by
    intro i b' h
    have h : (u.tr.set b bs.1).get i = some b' := h
    rw [Tr.get_set] at h
    split at h
    · rename_i e; simp at h; exact .inl ⟨e, h.symm⟩
    · rename_i e; exact .inr ⟨e, h⟩
  refine ⟨c', ⟨⟨hm.nb, hm.nt, ?_, ?_, hm.tok⟩, hle, rfl, rfl, rfl, ?_, ?_, ?_, ?_⟩, hV⟩
  · intro i b' h
    rcases hget i b' h with ⟨rfl, rfl⟩ | ⟨hi, h⟩
    · exact .of (.inr rfl) (by rw [hβ]; exact hB)
    · rcases (hm.blk i b' h).known with ⟨rfl, h1, h2⟩ | ⟨h1, h2⟩
      · exact ⟨h1, fun e => e.elim h2 hi⟩
      · refine .of (.inl h1) ?_
        rw [hβo h1]
        exact (h2.world' fun hl => heap_push_old w ob (hlt i b' h hl).2).mono hle
  · intro i j b1 b2 h1 h2 hij hap l1 l2
    rw [Blk.live_le hle] at l1 l2
    rcases hget i b1 h1 with ⟨rfl, e1⟩ | ⟨hi, g1⟩ <;> rcases hget j b2 h2 with ⟨rfl, e2⟩ | ⟨hj, g2⟩
    · exact absurd rfl hij
    · obtain ⟨h3, h4⟩ := hlt j b2 g2 l2
      rw [hβ, hβo h3]
      exact fun e => by have e : w.heap.size = _ := e; omega
    · obtain ⟨h3, h4⟩ := hlt i b1 g1 l1
      rw [hβ, hβo h3]
      exact fun e => by have e : _ = w.heap.size := e; omega
    · rw [hβo (hlt i b1 g1 l1).1, hβo (hlt j b2 g2 l2).1]
      exact hm.inj i j b1 b2 g1 g2 hij hap l1 l2
  · show w.heap.size ≤ (w.heap.push ob).size; simp
  · intro b' hb' _; exact heap_push_old w ob hb'
  · rintro b' ⟨i, blk, h1, h2, h3⟩
    rcases hget i blk h1 with ⟨rfl, rfl⟩ | ⟨hi, h1⟩
    · right; rw [hβ] at h3; exact Nat.le_of_eq h3
    · left; rw [hβo (hlt i blk h1 (Blk.wr_live h2)).1] at h3; exact ⟨i, blk, h1, h2, h3⟩
  · rintro b' ⟨i, blk, h1, h2, h3⟩
    rcases hget i blk h1 with ⟨rfl, rfl⟩ | ⟨hi, h1⟩
    · right; rw [hβ] at h3; exact Nat.le_of_eq h3
    · left; have h2 := (Blk.live_le hle).1 h2; rw [hβo (hlt i blk h1 h2).1] at h3; exact ⟨i, blk, h1, h2, h3⟩

theorem does_mk {cf : FuncId → List V → M V} {m m1 : Mem} {p q p1 q1 : Pc} {f : R (Blk × Shp)} {bs : Blk × Shp} {k0 b : Nat} (hp : PcR ρ p) (h : (guardO o.guard (fun g => guardR ops g n env)).gives ρ m p true q) (hk : evKind o.op P cf env = .al f) (hp1 : PcR ρ p1) (hf : f.gives ρ m1 p1 bs q1)
    {u : Mem} (hb : u.tr.get b = some .rsv) (hk0 : k0 ≤ b) : DoesN k0 P ρ ops n o env u (bs.2.val b) (setB u b bs.1) := by
  intro c w a hc hm he r K Q hK
  rw [if_pos (guardO_ok hp h hc he)]
  subst hc
  rw [← look_kind (ops := ops) (o := o)] at hk
  obtain ⟨_, ob, z, h7, h8⟩ := al_ok (w := w) hp1 he.full hk hf
  obtain ⟨c', s, hz⟩ := StepN.make hm hb hk0 h8
  refine wpIn_of (fun cl e => by rw [e] at hk; exact Kd.ef_al hk) ?_
  rw [h7]
  exact hK _ _ _ s hz
end does

/-! ### an entry of a literal map -/

/-- the memory is not looked at -/
def R.MF {α : Type} (x : R α) : Prop := ∀ m m' p, x m p = x m' p

theorem R.MF.pure {α : Type} (a : α) : (R.pure a).MF := fun _ _ _ => rfl
theorem R.MF.fail {α : Type} (s : String) : (R.fail s : R α).MF := fun _ _ _ => rfl
theorem R.MF.bnd {α β : Type} {x : R α} {f : α → R β} (hx : x.MF) (hf : ∀ a, (f a).MF) : (x.bnd f).MF := by
  intro m m' p
  show (x m p).bndp (fun v p => f v m p) = (x m' p).bndp fun v p => f v m' p
  rw [hx m m' p, show (fun v p => f v m p) = fun v p => f v m' p from funext fun v => funext fun p => hf v m m' p]
theorem R.MF.selB {α : Type} {c : Bool} {x y : R α} (hx : x.MF) (hy : y.MF) : (selB c x y).MF := by cases c; exact hy; exact hx
theorem decR_MF (c : B) : (decR c).MF := by cases c <;> exact fun _ _ _ => rfl

theorem eqBool_MF (x y : V) : (eqBool x y).MF := by
  cases x <;> try exact R.MF.fail _
  cases y <;> try exact R.MF.fail _
  exact .bnd (decR_MF _) fun _ => .bnd (decR_MF _) fun _ => .pure _
theorem eqInt_MF (x y : V) : (eqInt x y).MF := by
  cases x <;> try exact R.MF.fail _
  cases y <;> try exact R.MF.fail _
  exact .selB (decR_MF _) (.fail _)
theorem allE_MF : ∀ (a b : List E), (allE a b).MF
  | [], [] => .pure _
  | [], _ :: _ => .pure _
  | _ :: _, [] => .pure _
  | x :: a, y :: b => .bnd (decR_MF (mkEq x y)) fun v => by cases v; exact .pure _; exact allE_MF a b
theorem eqStr_MF (x y : V) : (eqStr x y).MF := by
  cases x <;> try exact R.MF.fail _
  cases y <;> try exact R.MF.fail _
  exact .selB (allE_MF _ _) (.pure _)

theorem eqElems_MF {P : Program} {rec : TypeId → V → V → R Bool} {elem : TypeId} (hr : ∀ a b, (rec elem a b).MF) (xs ys : List V) (n : Nat) : ∀ (len i : Nat), (eqElems P rec xs ys elem n len i).MF
  | 0, _ => .pure _
  | len + 1, i => .bnd (by
      show (eqOpt rec elem (partV P elem xs (i * n)) (partV P elem ys (i * n))).MF
      cases partV P elem xs (i * n) with
      | none => exact .fail _
      | some a => cases partV P elem ys (i * n) with
        | none => exact .fail _
        | some b => exact hr a b) fun v => by cases v; exact .pure _; exact eqElems_MF hr xs ys n len (i + 1)

theorem eqFields_MF {P : Program} {rec : TypeId → V → V → R Bool} {xs ys : List V} : ∀ {fs : List Field}, (∀ f ∈ fs, ∀ a b, (rec f.type a b).MF) → (eqFields P rec xs ys fs).MF
  | [], _ => .pure _
  | f :: fs, h => .selB (.fail _) (.bnd (by
      show (eqOpt rec f.type (partV P f.type xs f.offset) (partV P f.type ys f.offset)).MF
      cases partV P f.type xs f.offset with
      | none => exact .fail _
      | some a => cases partV P f.type ys f.offset with
        | none => exact .fail _
        | some b => exact h f (.head _) a b) fun v => by
          cases v
          · exact .pure _
          · exact eqFields_MF fun g hg => h g (.tail _ hg))

theorem keyEq_MF {P : Program} {kt : TypeId} (ht : keyOK P kt = true) (a b : V) : (keyEq P kt a b).MF := by
  show ((Option.rec (keyEq0 P kt) (fun _ => eqIn P 10 kt) (keyArr P kt) : V → V → R Bool) a b).MF
  cases hpl : plainK P kt with
  | true =>
    obtain ⟨d, hd, _⟩ := plainK_some hpl
    rw [plain_noArr hpl]
    show (keyEq0 P kt a b).MF
    unfold keyEq0
    rw [hd]
    cases d <;> first | exact eqBool_MF a b | exact eqInt_MF a b | exact eqStr_MF a b | exact R.MF.fail _
  | false =>
    rcases keyOK_cases ht with h0 | ⟨x, hx⟩
    · rw [hpl] at h0; exact nomatch h0
    · rw [hx]
      show (eqIn P 10 kt a b).MF
      obtain ⟨d, hu, hd⟩ := keyArr_some hx
      have hpl9 : ∀ {t : TypeId}, plainK P t = true → ∀ a b, (eqIn P 9 t a b).MF := fun {t} ht a b => by
        obtain ⟨d, hd, hk⟩ := plainK_some ht
        show (Option.rec (R.fail "") (fun td => eqD td P (eqIn P 8) t a b) (P.underlying t) : R Bool).MF
        rw [hd]
        rcases hk with ⟨k, rfl⟩ | rfl | rfl
        · exact eqInt_MF a b
        · exact eqStr_MF a b
        · exact eqBool_MF a b
      show (Option.rec (R.fail "") (fun td => eqD td P (eqIn P 9) kt a b) (P.underlying kt) : R Bool).MF
      rw [hu]
      rcases hd with ⟨el, rfl, ⟨k, he⟩, _⟩ | ⟨fs, rfl, hfs⟩
      · have h9 : ∀ a b, (eqIn P 9 el a b).MF := hpl9 (by unfold plainK; rw [he])
        show (eqArr P (eqIn P 9) x el a b).MF
        cases a <;> try exact R.MF.fail _
        cases b <;> try exact R.MF.fail _
        rename_i xs ys
        show (Option.rec (R.fail "") (fun n => eqElems P (eqIn P 9) xs ys el n x 0) (szOf P el) : R Bool).MF
        cases szOf P el with
        | none => exact .fail _
        | some n => exact eqElems_MF h9 xs ys n x 0
      · show (eqStruct P (eqIn P 9) kt fs a b).MF
        cases a <;> try exact R.MF.fail _
        cases b <;> try exact R.MF.fail _
        rename_i xs ys
        exact .selB (.fail _) (eqFields_MF fun f hf => hpl9 (hfs f hf).1)

/-- two keys are not one, whatever the memory -/
def Apart (P : Program) (kt : TypeId) (ρ : Nat → Int) (a b : V) : Prop :=
  ∀ (c : Cx) (w : World) (A B : Value), c.ρ = ρ → VR c a A → VR c b B → cmpK P kt w A B false

theorem bare_ok {c : Cx} {w : World} : MemR c ⟨.nil, c.nb, .nil, c.nt⟩ w :=
  ⟨rfl, rfl, fun i b h => by simp [Tr.get_nil] at h, fun i j b b' h => by simp [Tr.get_nil] at h, fun t n h => by simp [Tr.get_nil] at h⟩

theorem isNo_ok {P : Program} {kt : TypeId} (ht : keyOK P kt = true) {ρ : Nat → Int} {p : Pc} (hp : PcR ρ p) {a b : V} (h : isNo (keyEq P kt a b ⟨.nil, 0, .nil, 0⟩ p) = true) : Apart P kt ρ a b := by
  intro c w A B hρ hA hB
  subst hρ
  rw [keyEq_MF ht a b _ ⟨.nil, c.nb, .nil, c.nt⟩ p] at h
  cases ht2 : keyEq P kt a b ⟨.nil, c.nb, .nil, c.nt⟩ p with
  | ret x =>
    rw [ht2] at h
    obtain ⟨v, q⟩ := x
    have h : notB v = true := h
    cases v with
    | true => exact nomatch h
    | false =>
      have hg : (keyEq P kt a b).gives c.ρ ⟨.nil, c.nb, .nil, c.nt⟩ p false q := by
        unfold R.gives; rw [ht2]; rfl
      exact (cmpK_of bare_ok hp ht hA hB hg).2
  | br c' x y => rw [ht2] at h; exact absurd (show false = true from h) (by simp)
  | fail s => rw [ht2] at h; exact absurd (show false = true from h) (by simp)

theorem setB_eq (m : Mem) (i : Nat) (b : Blk) : setB m i b = ⟨m.tr.set i b, m.nb, m.tok, m.nt⟩ := rfl
theorem KvR.of_es {c : Cx} : ∀ {es : List (V × V × Nat)} {es' : List MapEntry}, EsR c es es' → KvR c (es.map fun e => (e.1, e.2.1)) es'
  | [], [], _ => trivial
  | [], _ :: _, h => absurd h.1 (by simp)
  | _ :: _, [], h => absurd h.1 (by simp)
  | e :: es, e' :: es', h => by
    obtain ⟨e1, h1, h2, h3, _⟩ := h.2 0 e (by simp)
    simp at h1; subst h1
    exact ⟨h2, h3, KvR.of_es h.uncons.1⟩

theorem KvR.mem {c : Cx} : ∀ {es : List (V × V)} {l : List MapEntry}, KvR c es l → ∀ e' ∈ l, ∃ e ∈ es, VR c e.1 e'.key ∧ VR c e.2 e'.val
  | [], [], _, _, h => nomatch h
  | e :: es, e' :: l, ⟨h1, h2, h3⟩, x, hx => by
    cases hx with
    | head => exact ⟨e, .head _, h1, h2⟩
    | tail _ hx => obtain ⟨u, k1, k2⟩ := h3.mem x hx; exact ⟨u, .tail _ k1, k2⟩
  | [], _ :: _, h, _, _ => h.elim
  | _ :: _, [], h, _, _ => h.elim

theorem KvR.push {c : Cx} {k v : V} {e : MapEntry} (hk : VR c k e.key) (hv : VR c v e.val) : ∀ {es : List (V × V)} {l : List MapEntry}, KvR c es l → KvR c (es ++ [(k, v)]) (l ++ [e])
  | [], [], _ => ⟨hk, hv, trivial⟩
  | _ :: _, _ :: _, ⟨h1, h2, h3⟩ => ⟨h1, h2, h3.push hk hv⟩
  | [], _ :: _, h => h.elim
  | _ :: _, [], h => h.elim

theorem PmR.push {c : Cx} {k v : V} {es : List (V × V)} {es' : Array MapEntry} {e : MapEntry} (h : PmR c es es'.toList) (hk : VR c k e.key) (hv : VR c v e.val) : PmR c (es ++ [(k, v)]) (es'.push e).toList := by
  obtain ⟨l', h1, h2⟩ := h
  refine ⟨l' ++ [e], ?_, h2.push hk hv⟩
  rw [Array.toList_push]
  exact h1.append_right [e]

section ins
variable {P : Program} {ρ : Nat → Int} {ops : Array Oper} {n : Nat} {o : Oper} {env : Env}

theorem look_ins : insOf o.op P (lookEnv ops o env) = insOf o.op P env := by
  have e : ∀ t, Operand.tmp t ∈ o.op.operands → lookEnv ops o env t = env t := fun t ht => if_pos (mem_looks ht)
  cases ho : o.op <;> try rfl
  case insert t mp k x =>
    rw [ho] at e
    have o1 : ∀ {x : Operand}, x ∈ (Op.insert t mp k x).operands → True := fun _ => trivial
    have e1 : opd mp (lookEnv ops o env) = opd mp env := opd_congr fun t ht => e t (by rw [← ht]; simp [Op.operands])
    have e2 : opd k (lookEnv ops o env) = opd k env := opd_congr fun t ht => e t (by rw [← ht]; simp [Op.operands])
    have e3 : opd x (lookEnv ops o env) = opd x env := opd_congr fun t ht => e t (by rw [← ht]; simp [Op.operands])
    show (Option.rec none (fun a => selB (keyFit P a.1 (opd k (lookEnv ops o env))) (onMap (opd mp (lookEnv ops o env)) (fun i => some ⟨a.1, i, opd k (lookEnv ops o env), opd x (lookEnv ops o env)⟩) none) none) (mapOf P t) : Option Ins) = Option.rec none (fun a => selB (keyFit P a.1 (opd k env)) (onMap (opd mp env) (fun i => some ⟨a.1, i, opd k env, opd x env⟩) none) none) (mapOf P t)
    rw [e1, e2, e3]

theorem insOf_some {x : Ins} (h : insOf o.op P env = some x) : ∃ t mp k y et, o.op = .insert t mp k y ∧ mapOf P t = some (x.kt, et) ∧ keyFit P x.kt (opd k env) = true ∧ opd mp env = .map x.b ∧ x.k = opd k env ∧ x.v = opd y env := by
  cases ho : o.op <;> rw [ho] at h <;> try exact nomatch (show none = some x from h)
  case insert t mp k y =>
    have h : (Option.rec none (fun a => selB (keyFit P a.1 (opd k env)) (onMap (opd mp env) (fun i => some ⟨a.1, i, opd k env, opd y env⟩) none) none) (mapOf P t) : Option Ins) = some x := h
    cases ha : mapOf P t with
    | none => rw [ha] at h; exact nomatch h
    | some a =>
      rw [ha] at h
      have h : selB (keyFit P a.1 (opd k env)) (onMap (opd mp env) (fun i => some (⟨a.1, i, opd k env, opd y env⟩ : Ins)) none) none = some x := h
      cases hf : keyFit P a.1 (opd k env) with
      | false => rw [hf] at h; exact nomatch h
      | true =>
        rw [hf] at h
        have h : onMap (opd mp env) (fun i => some (⟨a.1, i, opd k env, opd y env⟩ : Ins)) none = some x := h
        rcases onMap_cases (opd mp env) (fun i => some (⟨a.1, i, opd k env, opd y env⟩ : Ins)) none with ⟨i, h1, h2⟩ | h2 <;> rw [h2] at h
        · obtain rfl := Option.some.inj h
          exact ⟨t, mp, k, y, a.2, rfl, ha, hf, h1, rfl, rfl⟩
        · exact nomatch h

/-- the block is a map with these entries -/
def MapB (B : Blk) (es : List (V × V)) : Prop := B = .pm es true ∨ es = [] ∧ B = .map [] 0 true

theorem MapB.wr {B : Blk} {es : List (V × V)} (h : MapB B es) : B.wrB = true := by
  rcases h with rfl | ⟨_, rfl⟩ <;> rfl

theorem MapB.rel {B : Blk} {es : List (V × V)} (h : MapB B es) {c : Cx} {w : World} {i : Nat} (hb : c.blkB w i B) : c.has i ∧ ∃ es' k, w.heap[(c.β i).1]? = some (.map es' k) ∧ PmR c es es'.toList := by
  rcases h with rfl | ⟨rfl, rfl⟩
  · exact hb
  · obtain ⟨h1, es', h2, h3⟩ := hb
    exact ⟨h1, es', 0, h2, es'.toList, .refl _, h3.1 |> fun e => by
      have : es'.toList = [] := List.length_eq_zero_iff.1 e
      rw [this]; trivial⟩

/-- the entry, laid -/
theorem does_ins {m u : Mem} {p q : Pc} {x : Ins} {B : Blk} {es : List (V × V)} (hp : PcR ρ p) (h : (guardO o.guard (fun g => guardR ops g n env)).gives ρ m p true q) (hx : insOf o.op P env = some x) (hb : u.tr.get x.b = some B) (hB : MapB B es)
    (hap : ∀ e ∈ es, Apart P x.kt ρ x.k e.1) : Does P ρ ops n o env u undefV (setB u x.b (.pm (es ++ [(x.k, x.v)]) true)) := by
  intro c w a hc hm he r K Q hK
  rw [if_pos (guardO_ok hp h hc he)]
  subst hc
  rw [← look_ins (ops := ops)] at hx
  obtain ⟨t, mp, k, y, et, ho, ha, hfit, hmp, hk, hy⟩ := insOf_some hx
  obtain ⟨hu, hpl⟩ := mapOf_some ha
  have hf := he.full
  have vmp := opd_ok hf mp
  rw [hmp] at vmp
  have vk := opd_ok hf k
  have vy := opd_ok hf y
  rw [← hk] at vk
  rw [← hy] at vy
  rw [← hk] at hfit
  obtain ⟨hlt, es', kk, hh, hpm⟩ := hB.rel (hm.blk _ _ hb)
  obtain ⟨_, hme⟩ := VR.map.1 vmp
  have hap2 : ∀ e ∈ es'.toList, cmpK P x.kt w (a.eval k) e.key false := by
    intro e he2
    obtain ⟨l', hperm, hkv⟩ := hpm
    obtain ⟨d, hd, hd1, _⟩ := hkv.mem e (hperm.mem_iff.2 he2)
    exact hap d hd c w _ _ rfl vk hd1
  obtain ⟨r, h1, h2⟩ := find_cmp (K := a.eval k) hpl (es := es'.toList) fun e he2 => ⟨false, hap2 e he2⟩
  have hr : r = none := by
    rcases h2 with ⟨h2, _⟩ | ⟨i, e, h3, h4, _⟩
    · exact h2
    · exact nomatch h4.one (hap2 e h3)
  subst hr
  have hlt2 : (c.β x.b).1 < w.heap.size := (Array.getElem?_eq_some_iff.1 hh).1
  have hs : Step c u w c (setB u x.b (.pm (es ++ [(x.k, x.v)]) true)) (World.putObj w (c.β x.b).1 (.map (es'.push ⟨a.eval k, a.eval y, kk⟩) (kk + 1))) := by
    rw [setB_eq]
    exact Step.put hm hb hB.wr ⟨_, kk + 1, putObj_same hlt2, hpm.push vk vy⟩ (by simp [World.putObj]) (fun j hj => putObj_other hj) rfl rfl rfl
  have hg : (getObj (c.β x.b).1).run P w = .ok (.map es' kk) w := run_getObj hh
  have hrun : (Instr.mapUpdate t (a.eval mp) (a.eval k) (a.eval y)).run P w = .ok () (World.putObj w (c.β x.b).1 (.map (es'.push ⟨a.eval k, a.eval y, kk⟩) (kk + 1))) := by
    rw [hme]
    simpa [Instr.mapUpdate, run_und hu, hg, checkKey_ok hpl vk hfit, h1] using run_setObj (P := P) hh
  exact EffR.of_unit (q := p) hp hs hrun (by unfold execOp; rw [ho]) (fun cl e => by rw [ho] at e; cases e) r K Q fun c' w' z _ s1 hz => hK c' w' z s1 hz
end ins

/-! ### values that are one -/

theorem andB_ok {a b : Bool} (h : andB a b = true) : a = true ∧ b = true := andB_iff.1 h

theorem eqE_ok {a b : E} (h : eqE a b = true) : a = b := by
  cases a <;> cases b <;> exact E.beq_eq h

theorem eqB_ok {a b : Bool} (h : eqB a b = true) : a = b := by cases a <;> cases b <;> first | rfl | (exact absurd h (by simp [eqB, notB]))

theorem eqBB_ok : ∀ {a b : B}, eqBB a b = true → a = b
  | .lit u, b, h => by
    cases b with
    | lit v => rw [eqB_ok (show eqB u v = true from h)]
    | _ => exact absurd (show false = true from h) (by simp)
  | .lt x y, b, h => by
    cases b with
    | lt z w => obtain ⟨h1, h2⟩ := andB_ok (show andB (eqE x z) (eqE y w) = true from h); rw [eqE_ok h1, eqE_ok h2]
    | _ => exact absurd (show false = true from h) (by simp)
  | .eq x y, b, h => by
    cases b with
    | eq z w => obtain ⟨h1, h2⟩ := andB_ok (show andB (eqE x z) (eqE y w) = true from h); rw [eqE_ok h1, eqE_ok h2]
    | _ => exact absurd (show false = true from h) (by simp)
  | .not a, b, h => by
    cases b with
    | not c => rw [eqBB_ok (show eqBB a c = true from h)]
    | _ => exact absurd (show false = true from h) (by simp)

theorem eqEs_ok : ∀ {a b : List E}, eqEs a b = true → a = b
  | [], b, h => by
    cases b with
    | nil => rfl
    | cons y r => exact absurd (show false = true from h) (by simp)
  | x :: l, b, h => by
    cases b with
    | nil => exact absurd (show false = true from h) (by simp)
    | cons y r => obtain ⟨h1, h2⟩ := andB_ok (show andB (eqE x y) (eqEs l r) = true from h); rw [eqE_ok h1, eqEs_ok h2]

theorem eqCp_ok {a b : Cp} (h : eqCp a b = true) : a = b := by
  cases a with
  | n c =>
    cases b with
    | n d => rw [(beq_iff c d).1 h]
    | _ => exact absurd (show false = true from h) (by simp)
  | u =>
    cases b with
    | u => rfl
    | _ => exact absurd (show false = true from h) (by simp)
  | t i k =>
    cases b with
    | n d => exact absurd (show false = true from h) (by simp)
    | u => exact absurd (show false = true from h) (by simp)
    | t j l => obtain ⟨h1, h2⟩ := andB_ok (show andB (Nat.beq i j) (Nat.beq k l) = true from h); rw [(beq_iff i j).1 h1, (beq_iff k l).1 h2]

theorem eqFn_ok {a b : Fn} (h : eqFn a b = true) : a = b := by
  cases a <;> first | exact absurd (show false = true from h) (by simp) | skip
  case func f =>
    cases b <;> first | exact absurd (show false = true from h) (by simp) | skip
    case func g => rw [(beq_iff f g).1 h]
  case method s =>
    cases b <;> first | exact absurd (show false = true from h) (by simp) | skip
    case method u =>
      have h : (s == u) = true := h
      rw [eq_of_beq h]

theorem eqEz_ok {a b : Option (Nat × Nat × Nat)} (h : eqEz a b = true) : a = b := by
  cases a with
  | none => cases b with
    | none => rfl
    | some y => exact absurd (show false = true from h) (by simp)
  | some x => cases b with
    | none => exact absurd (show false = true from h) (by simp)
    | some y =>
      obtain ⟨h1, h2⟩ := andB_ok (show andB (Nat.beq x.1 y.1) (andB (Nat.beq x.2.1 y.2.1) (Nat.beq x.2.2 y.2.2)) = true from h)
      obtain ⟨h3, h4⟩ := andB_ok h2
      obtain ⟨x1, x2, x3⟩ := x
      obtain ⟨y1, y2, y3⟩ := y
      rw [beq_iff] at h1 h3 h4
      rw [show x1 = y1 from h1, show x2 = y2 from h3, show x3 = y3 from h4]

theorem eqVV_ok (a : V) : ∀ b, eqVV a b = true → a = b := by
  refine V.rec (motive_1 := fun a => ∀ b, eqVV a b = true → a = b) (motive_2 := fun l => ∀ l' : List V, eqVV (.agg l) (.agg l') = true → l = l') ?_ ?_ ?_ ?_ ?_ ?_ ?_ ?_ ?_ ?_ ?_ ?_ ?_ ?_ ?_ ?_ ?_ ?_ ?_ ?_ ?_ ?_ a
  · intro x b h
    cases b with
    | bool y => rw [eqBB_ok (show eqBB x y = true from h)]
    | _ => exact absurd (show false = true from h) (by simp)
  · intro k e b h
    cases b with
    | int k' e' => obtain ⟨h1, h2⟩ := andB_ok (show andB (Nat.beq (kindNo k) (kindNo k')) (eqE e e') = true from h); rw [kindNo_inj h1, eqE_ok h2]
    | _ => exact absurd (show false = true from h) (by simp)
  · intro l b h
    cases b with
    | str l' => rw [eqEs_ok (show eqEs l l' = true from h)]
    | _ => exact absurd (show false = true from h) (by simp)
  · intro b h
    cases b with
    | nilPtr => rfl
    | _ => exact absurd (show false = true from h) (by simp)
  · intro i o b h
    cases b with
    | ptr i' o' => obtain ⟨h1, h2⟩ := andB_ok (show andB (Nat.beq i i') (Nat.beq o o') = true from h); rw [(beq_iff _ _).1 h1, (beq_iff _ _).1 h2]
    | _ => exact absurd (show false = true from h) (by simp)
  · intro b h
    cases b with
    | nilSlice => rfl
    | _ => exact absurd (show false = true from h) (by simp)
  · intro i o n c b h
    cases b with
    | slice i' o' n' c' => obtain ⟨h1, h2⟩ := andB_ok (show andB (andB (Nat.beq i i') (Nat.beq o o')) (andB (Nat.beq n n') (eqCp c c')) = true from h); obtain ⟨h3, h4⟩ := andB_ok h1; obtain ⟨h5, h6⟩ := andB_ok h2; rw [(beq_iff _ _).1 h3, (beq_iff _ _).1 h4, (beq_iff _ _).1 h5, eqCp_ok h6]
    | _ => exact absurd (show false = true from h) (by simp)
  · intro b h
    cases b with
    | nilMap => rfl
    | _ => exact absurd (show false = true from h) (by simp)
  · intro i b h
    cases b with
    | map i' => rw [(beq_iff i i').1 h]
    | _ => exact absurd (show false = true from h) (by simp)
  · intro f x y ia ib b h
    cases b with
    | func f' x' y' => obtain ⟨h1, h2⟩ := andB_ok (show andB (eqFn f f') (andB (eqVV (.agg x) (.agg x')) (eqVV (.agg y) (.agg y'))) = true from h); obtain ⟨h3, h4⟩ := andB_ok h2; rw [eqFn_ok h1, ia _ h3, ib _ h4]
    | _ => exact absurd (show false = true from h) (by simp)
  · intro b h
    cases b with
    | nilFunc => rfl
    | _ => exact absurd (show false = true from h) (by simp)
  · intro t v ih b h
    cases b with
    | iface t' v' => obtain ⟨h1, h2⟩ := andB_ok (show andB (Nat.beq t t') (eqVV v v') = true from h); rw [(beq_iff _ _).1 h1, ih _ h2]
    | _ => exact absurd (show false = true from h) (by simp)
  · intro b h
    cases b with
    | nilIface => rfl
    | _ => exact absurd (show false = true from h) (by simp)
  · intro l ih b h
    cases b with
    | agg l' => rw [ih _ h]
    | _ => exact absurd (show false = true from h) (by simp)
  · intro l ih b h
    cases b with
    | tuple l' => rw [ih _ h]
    | _ => exact absurd (show false = true from h) (by simp)
  · intro b h
    exact absurd (show false = true from h) (by simp)
  · intro i sz n b h
    cases b with
    | sarr i' sz' n' => obtain ⟨h1, h2⟩ := andB_ok (show andB (andB (Nat.beq i i') (Nat.beq sz sz')) (eqE n n') = true from h); obtain ⟨h3, h4⟩ := andB_ok h1; rw [(beq_iff _ _).1 h3, (beq_iff _ _).1 h4, eqE_ok h2]
    | _ => exact absurd (show false = true from h) (by simp)
  · intro i sz e f b h
    cases b with
    | sptr i' sz' e' f' => obtain ⟨h1, h2⟩ := andB_ok (show andB (andB (Nat.beq i i') (Nat.beq sz sz')) (andB (eqE e e') (Nat.beq f f')) = true from h); obtain ⟨h3, h4⟩ := andB_ok h1; obtain ⟨h5, h6⟩ := andB_ok h2; rw [(beq_iff _ _).1 h3, (beq_iff _ _).1 h4, eqE_ok h5, (beq_iff _ _).1 h6]
    | _ => exact absurd (show false = true from h) (by simp)
  · intro i z b h
    cases b with
    | eslice i' z' => obtain ⟨h1, h2⟩ := andB_ok (show andB (Nat.beq i i') (eqEz z z') = true from h); rw [(beq_iff _ _).1 h1, eqEz_ok h2]
    | _ => exact absurd (show false = true from h) (by simp)
  · intro i b h
    cases b with
    | yld i' => rw [(beq_iff i i').1 h]
    | _ => exact absurd (show false = true from h) (by simp)
  · intro b h
    cases b with
    | nil => rfl
    | cons y r => exact absurd (show false = true from h) (by simp)
  · intro x l ih il b h
    cases b with
    | nil => exact absurd (show false = true from h) (by simp)
    | cons y r => obtain ⟨h1, h2⟩ := andB_ok (show andB (eqVV x y) (eqVV (.agg l) (.agg r)) = true from h); rw [ih _ h1, il _ h2]

end Go.Sy

/-
  What is proved here: memories with blocks laid over them; a region whose order is drawn: what each of its operations does.
  Conditions: none.
-/
namespace Go.Sy

section out
variable {α β : Type} {ρ : Nat → Int}

theorem T.out_bndq {f : α → Mem → Pc → T β} {r : β} : ∀ {t : T (Rs α)} {p : Pc}, PcR ρ p → (t.bndq p f).out ρ = some r → ∃ a p1, t.out ρ = some a ∧ PcR ρ p1 ∧ (f a.v a.m p1).out ρ = some r
  | .ret a, p, hp, h => ⟨a, p, rfl, hp, h⟩
  | .br c x y, p, hp, h => by
    have h : (T.br c (x.bndq (p.add c true) f) (y.bndq (p.add c false) f)).out ρ = some r := h
    simp only [T.out] at h ⊢
    cases hc : c.den ρ with
    | true => rw [hc] at h; exact T.out_bndq (Pc.add_ok hp hc) (by simpa using h)
    | false => rw [hc] at h; exact T.out_bndq (Pc.add_ok hp hc) (by simpa using h)
  | .fail s, p, hp, h => by
    have h : (T.fail s : T β).out ρ = some r := h
    simp [T.out] at h

theorem T.out_bndpq {f : α → Pc → T β} {r : β} : ∀ {t : T (Rp α)} {p : Pc}, PcR ρ p → (t.bndpq p f).out ρ = some r → ∃ a p1, t.out ρ = some a ∧ PcR ρ p1 ∧ (f a.v p1).out ρ = some r
  | .ret a, p, hp, h => ⟨a, p, rfl, hp, h⟩
  | .br c x y, p, hp, h => by
    have h : (T.br c (x.bndpq (p.add c true) f) (y.bndpq (p.add c false) f)).out ρ = some r := h
    simp only [T.out] at h ⊢
    cases hc : c.den ρ with
    | true => rw [hc] at h; exact T.out_bndpq (Pc.add_ok hp hc) (by simpa using h)
    | false => rw [hc] at h; exact T.out_bndpq (Pc.add_ok hp hc) (by simpa using h)
  | .fail s, p, hp, h => by
    have h : (T.fail s : T β).out ρ = some r := h
    simp [T.out] at h

theorem T.out_selB {c : Bool} {x : T β} {s : String} {r : β} (h : (selB c x (.fail s)).out ρ = some r) : c = true ∧ x.out ρ = some r := by
  cases c with
  | true => exact ⟨rfl, h⟩
  | false =>
    have h : (T.fail s : T β).out ρ = some r := h
    simp [T.out] at h

theorem sameAt_ok {f : R V} {v : V} {p : Pc} {m : Mem} (h : sameAt f v p m = true) : ∃ q, f.gives ρ m p v q := by
  unfold sameAt at h
  unfold R.gives
  cases ht : f m p with
  | ret a =>
    rw [ht] at h
    obtain ⟨u, q⟩ := a
    have := eqVV_ok u v h
    subst this
    exact ⟨q, rfl⟩
  | br c x y => rw [ht] at h; exact absurd (show false = true from h) (by simp)
  | fail s => rw [ht] at h; exact absurd (show false = true from h) (by simp)

theorem allL_ok {f : α → Bool} : ∀ {l : List α}, allL f l = true → ∀ x ∈ l, f x = true
  | [], _, x, hx => by simp at hx
  | a :: l, h, x, hx => by
    have h : (Bool.rec false (allL f l) (f a) : Bool) = true := h
    cases ha : f a with
    | false => rw [ha] at h; simp at h
    | true =>
      rw [ha] at h
      cases hx with
      | head => exact ha
      | tail _ hx => exact allL_ok h x hx

theorem keepL_mem {f : α → Bool} {x : α} : ∀ {l : List α}, x ∈ l → f x = false → x ∈ keepL f l
  | a :: l, hx, hf => by
    show x ∈ (Bool.rec (a :: keepL f l) (keepL f l) (f a) : List α)
    cases ha : f a with
    | false =>
      cases hx with
      | head => exact .head _
      | tail _ hx => exact .tail _ (keepL_mem hx hf)
    | true =>
      cases hx with
      | head => rw [ha] at hf; simp at hf
      | tail _ hx => exact keepL_mem hx hf

theorem orB_ok {a b : Bool} (h : orB a b = true) : a = true ∨ b = true := by cases a <;> cases b <;> simp_all [orB]
end out


section mems
variable {c : Cx}

theorem KvR.perm {a b : List (V × V)} (h : a.Perm b) : ∀ {l : List MapEntry}, KvR c a l → ∃ l', l'.Perm l ∧ KvR c b l' := by
  induction h with
  | nil => exact fun {l} hl => ⟨l, .refl _, hl⟩
  | cons x _ ih =>
    intro l hl
    cases l with
    | nil => exact hl.elim
    | cons e l =>
      obtain ⟨h1, h2, h3⟩ := hl
      obtain ⟨l', h4, h5⟩ := ih h3
      exact ⟨e :: l', h4.cons e, h1, h2, h5⟩
  | swap x y a =>
    intro l hl
    cases l with
    | nil => exact hl.elim
    | cons e l =>
      obtain ⟨h1, h2, h3⟩ := hl
      cases l with
      | nil => exact h3.elim
      | cons e' l =>
        obtain ⟨h4, h5, h6⟩ := h3
        exact ⟨e' :: e :: l, .swap e e' l, h4, h5, h1, h2, h6⟩
  | trans _ _ ih1 ih2 =>
    intro l hl
    obtain ⟨l1, h1, h2⟩ := ih1 hl
    obtain ⟨l2, h3, h4⟩ := ih2 h2
    exact ⟨l2, h3.trans h1, h4⟩

theorem PmR.perm {a b : List (V × V)} {l : List MapEntry} (h : a.Perm b) (hr : PmR c a l) : PmR c b l := by
  obtain ⟨l', h1, h2⟩ := hr
  obtain ⟨l2, h3, h4⟩ := h2.perm h
  exact ⟨l2, h3.trans h1, h4⟩

def BlkE (x y : Option Blk) : Prop := x = y ∨ ∃ a b w, x = some (.pm a w) ∧ y = some (.pm b w) ∧ a.Perm b

theorem BlkE.symm {x y : Option Blk} (h : BlkE x y) : BlkE y x := by
  rcases h with h | ⟨a, b, w, h1, h2, h3⟩
  · exact .inl h.symm
  · exact .inr ⟨b, a, w, h2, h1, h3.symm⟩

/-- memories that are one, but for the order of maps' entries -/
structure MemE (m m' : Mem) : Prop where
  nb : m.nb = m'.nb
  nt : m.nt = m'.nt
  tok : m.tok = m'.tok
  tr : ∀ i, BlkE (m.tr.get i) (m'.tr.get i)

theorem MemE.symm {m m' : Mem} (h : MemE m m') : MemE m' m := ⟨h.nb.symm, h.nt.symm, h.tok.symm, fun i => (h.tr i).symm⟩

theorem BlkE.some {x : Option Blk} {b' : Blk} (h : BlkE x (some b')) : ∃ b, x = some b ∧ b.wrB = b'.wrB ∧ b.plB = b'.plB ∧ (∀ c : Cx, b'.live c → b.live c) ∧ ∀ (c : Cx) (w : World) (i : Nat), c.blkB w i b → c.blkB w i b' := by
  rcases h with rfl | ⟨a, b, w, rfl, h2, h3⟩
  · exact ⟨b', rfl, rfl, rfl, fun _ h => h, fun _ _ _ h => h⟩
  · obtain rfl := Option.some.inj h2
    exact ⟨_, rfl, rfl, rfl, fun _ h => h, fun c w' i hr => let ⟨hh, es', k, k1, k2⟩ := hr; ⟨hh, es', k, k1, k2.perm h3⟩⟩

theorem MemE.rel {m m' : Mem} (h : MemE m m') {w : World} (hm : MemR c m w) : MemR c m' w := by
  refine ⟨hm.nb.trans h.nb, hm.nt.trans h.nt, fun i b hb => ?_, fun i j b b' hb hb' hij hap l1 l2 => ?_, fun t n ht => hm.tok t n (by rw [h.tok]; exact ht)⟩
  · have e := h.tr i
    rw [hb] at e
    obtain ⟨k, h1, _, _, _, h2⟩ := e.some
    exact h2 _ _ _ (hm.blk i k h1)
  · have e := h.tr i
    rw [hb] at e
    have e' := h.tr j
    rw [hb'] at e'
    obtain ⟨k, h1, h2, h3, h4, _⟩ := e.some
    obtain ⟨k', k1, k2, k3, k4, _⟩ := e'.some
    exact hm.inj i j k k' h1 k1 hij (by unfold Blk.apt at *; rw [h2, h3, k2, k3]; exact hap) (h4 c l1) (k4 c l2)

theorem MemE.wr {m m' : Mem} (h : MemE m m') {x : Nat} (hx : Wr c m' x) : Wr c m x := by
  obtain ⟨i, b, h1, h2, h3⟩ := hx
  have e := h.tr i
  rw [h1] at e
  obtain ⟨k, k1, k2, _⟩ := e.some
  exact ⟨i, k, k1, by rw [k2]; exact h2, h3⟩

theorem MemE.ad {m m' : Mem} (h : MemE m m') {x : Nat} (hx : Ad c m' x) : Ad c m x := by
  obtain ⟨i, b, h1, h2, h3⟩ := hx
  have e := h.tr i
  rw [h1] at e
  obtain ⟨k, k1, _, _, k2, _⟩ := e.some
  exact ⟨i, k, k1, k2 c h2, h3⟩

theorem StepN.toE {k0 : Nat} {c' : Cx} {u m m' : Mem} {w w' : World} (h : StepN k0 c u w c' m w') (e : MemE m m') : StepN k0 c u w c' m' w' :=
  ⟨e.rel h.rel, h.le, h.os, h.tape, h.output, h.size, h.frame, fun b hb => h.wr b (e.wr hb), fun b hb => h.ad b (e.ad hb)⟩

/-- the second is part of the first -/
structure MemSub (m d : Mem) : Prop where
  nb : m.nb = d.nb
  nt : m.nt = d.nt
  tok : m.tok = d.tok
  tr : ∀ i b, d.tr.get i = some b → m.tr.get i = some b

theorem MemSub.refl (m : Mem) : MemSub m m := ⟨rfl, rfl, rfl, fun _ _ h => h⟩

theorem MemSub.rel {m d : Mem} (h : MemSub m d) {w : World} (hm : MemR c m w) : MemR c d w :=
  ⟨hm.nb.trans h.nb, hm.nt.trans h.nt, fun i b hb => hm.blk i b (h.tr i b hb), fun i j b b' hb hb' => hm.inj i j b b' (h.tr i b hb) (h.tr j b' hb'), fun t n ht => hm.tok t n (by rw [h.tok]; exact ht)⟩


theorem MemSub.trans {a b d : Mem} (h : MemSub a b) (k : MemSub b d) : MemSub a d :=
  ⟨h.nb.trans k.nb, h.nt.trans k.nt, h.tok.trans k.tok, fun i b hb => h.tr i b (k.tr i b hb)⟩

theorem StepN.sub {k0 : Nat} {c' : Cx} {u m d : Mem} {w w' : World} (h : StepN k0 c u w c' m w') (e : MemSub m d) : StepN k0 c u w c' d w' :=
  ⟨e.rel h.rel, h.le, h.os, h.tape, h.output, h.size, h.frame, fun b ⟨i, k, h1, h2, h3⟩ => h.wr b ⟨i, k, e.tr i k h1, h2, h3⟩, fun b ⟨i, k, h1, h2, h3⟩ => h.ad b ⟨i, k, e.tr i k h1, h2, h3⟩⟩

theorem setB_get (m : Mem) (b j : Nat) (x : Blk) : (setB m b x).tr.get j = if j = b then some x else m.tr.get j := Tr.get_set m.tr b j x

theorem setB_sub {m : Mem} {b : Nat} (x : Blk) (h : m.tr.get b = none) : MemSub (setB m b x) m := by
  refine ⟨rfl, rfl, rfl, fun i k hk => ?_⟩
  rw [setB_get, if_neg]
  · exact hk
  · rintro rfl; rw [h] at hk; exact nomatch hk

/-! ### blocks laid over a memory -/

structure Ext (u : Mem) (F : Nat → Option Blk) (m : Mem) : Prop where
  nb : m.nb = u.nb
  nt : m.nt = u.nt
  tok : m.tok = u.tok
  tr : ∀ j, m.tr.get j = (F j).or (u.tr.get j)

noncomputable def layM (u : Mem) (F : Nat → Option Blk) : List Nat → Mem
  | [] => u
  | i :: l => match F i with | none => layM u F l | some b => setB (layM u F l) i b

theorem layM_of {u : Mem} {F : Nat → Option Blk} : ∀ (l : List Nat), (layM u F l).nb = u.nb ∧ (layM u F l).nt = u.nt ∧ (layM u F l).tok = u.tok ∧ ∀ j, (layM u F l).tr.get j = if j ∈ l then (F j).or (u.tr.get j) else u.tr.get j
  | [] => ⟨rfl, rfl, rfl, fun j => by simp [layM]⟩
  | i :: l => by
    obtain ⟨h1, h2, h3, h4⟩ := layM_of (u := u) (F := F) l
    rw [layM]
    cases hi : F i with
    | none =>
      refine ⟨h1, h2, h3, fun j => ?_⟩
      show (layM u F l).tr.get j = _
      rw [h4 j]
      by_cases hj : j = i
      · subst hj; simp [hi]
      · simp [hj]
    | some b =>
      refine ⟨h1, h2, h3, fun j => ?_⟩
      show (setB (layM u F l) i b).tr.get j = _
      rw [setB_get, h4 j]
      by_cases hj : j = i
      · subst hj; simp [hi]
      · simp [hj]

theorem layM_ext {u : Mem} {F : Nat → Option Blk} {l : List Nat} (h : ∀ j b, F j = some b → j ∈ l) : Ext u F (layM u F l) := by
  obtain ⟨h1, h2, h3, h4⟩ := layM_of (u := u) (F := F) l
  refine ⟨h1, h2, h3, fun j => ?_⟩
  rw [h4 j]
  split
  · rfl
  · rename_i hj
    cases hF : F j with
    | none => rfl
    | some b => exact absurd (h j b hF) hj

theorem Ext.put {u m : Mem} {F : Nat → Option Blk} (e : Ext u F m) {j : Nat} {b : Blk} (h : F j = some b) : m.tr.get j = some b := by rw [e.tr, h]; rfl
theorem Ext.not {u m : Mem} {F : Nat → Option Blk} (e : Ext u F m) {j : Nat} (h : F j = none) : m.tr.get j = u.tr.get j := by rw [e.tr, h]; rfl

theorem Ext.sub {u m : Mem} {F : Nat → Option Blk} (e : Ext u F m) (hg : ∀ j b, F j = some b → u.tr.get j = none) : MemSub m u := by
  refine ⟨e.nb, e.nt, e.tok, fun i b hb => ?_⟩
  cases hF : F i with
  | none => rw [e.not hF]; exact hb
  | some x => rw [hg i x hF] at hb; exact nomatch hb

/-- what is not seen stays as it is -/
theorem Step.hide {c' : Cx} {u u1 m m1 : Mem} {w w' : World} {F : Nat → Option Blk} (hm : MemR c m w) (e : Ext u F m) (e1 : Ext u1 F m1) (hg : ∀ j b, F j = some b → u.tr.get j = none) (hF : ∀ j b, F j = some b → b = .rsv ∨ b.wrB = true) (s : Step c u w c' u1 w') : Step c m w c' m1 w' := by
  have hsub := e.sub hg
  have key : ∀ {j b}, m1.tr.get j = some b → F j = some b ∨ u1.tr.get j = some b := by
    intro j b h
    cases hFj : F j with
    | none => rw [e1.not hFj] at h; exact .inr h
    | some x => rw [e1.put hFj] at h; exact .inl h
  have live : ∀ {j b}, F j = some b → b.live c → b.wrB = true ∧ c.has j ∧ (c.β j).1 < w.heap.size ∧ c'.β j = c.β j := by
    intro j b h hl
    obtain ⟨h1, h2⟩ := (hm.blk j b (e.put h)).live hl
    refine ⟨?_, h1, h2.lt hl, s.le.β j h1⟩
    rcases hF j b h with rfl | h3
    · exact hl.elim
    · exact h3
  have away : ∀ {j b x}, F j = some b → b.live c → Ad c u x → (c.β j).1 ≠ x := by
    rintro j b x h hl ⟨i, k, h1, h2, rfl⟩
    refine hm.inj j i b k (e.put h) (hsub.tr i k h1) ?_ (Blk.apt_left (live h hl).1) hl h2
    rintro rfl
    rw [hg _ b h] at h1; exact nomatch h1
  have awr : ∀ {x}, Wr c u x → Ad c u x := fun ⟨i, k, h1, h2, h3⟩ => ⟨i, k, h1, Blk.wr_live h2, h3⟩
  have away' : ∀ {j b x}, F j = some b → b.live c → Ad c' u1 x → (c'.β j).1 ≠ x := by
    intro j b x h hl ha
    obtain ⟨_, _, h3, h4⟩ := live h hl
    rw [h4]
    rcases s.ad x ha with h5 | h5
    · exact away h hl h5
    · omega
  refine ⟨⟨s.rel.nb.trans e1.nb.symm, s.rel.nt.trans e1.nt.symm, fun i b h => ?_, fun i j b b' h h' hij hap l l' => ?_, fun t n ht => s.rel.tok t n (by rw [← e1.tok]; exact ht)⟩, s.le, s.os, s.tape, s.output, s.size, fun b hb hw => s.frame b hb fun ⟨i, k, h1, h2, h3⟩ => hw ⟨i, k, hsub.tr i k h1, h2, h3⟩, ?_, ?_⟩
  · rcases key h with h | h
    · exact (hm.blk i b (e.put h)).on s.le fun hl => s.frame _ (live h hl).2.2.1 fun hw => away h hl (awr hw) rfl
    · exact s.rel.blk i b h
  · rcases key h with h | h <;> rcases key h' with h' | h'
    · rw [Blk.live_le s.le] at l l'
      rw [(live h l).2.2.2, (live h' l').2.2.2]
      exact hm.inj i j b b' (e.put h) (e.put h') hij hap l l'
    · rw [Blk.live_le s.le] at l
      exact away' h l ⟨j, b', h', l', rfl⟩
    · rw [Blk.live_le s.le] at l'
      exact (away' h' l' ⟨i, b, h, l, rfl⟩).symm
    · exact s.rel.inj i j b b' h h' hij hap l l'
  · rintro x ⟨i, k, h1, h2, h3⟩
    rcases key h1 with h | h
    · rw [(live h (Blk.wr_live h2)).2.2.2] at h3
      exact .inl ⟨i, k, e.put h, h2, h3⟩
    · rcases s.wr x ⟨i, k, h, h2, h3⟩ with ⟨i', k', g1, g2, g3⟩ | h4
      · exact .inl ⟨i', k', hsub.tr i' k' g1, g2, g3⟩
      · exact .inr h4
  · rintro x ⟨i, k, h1, h2, h3⟩
    rcases key h1 with h | h
    · have h2' := (Blk.live_le s.le).1 h2
      rw [(live h h2').2.2.2] at h3
      exact .inl ⟨i, k, e.put h, h2', h3⟩
    · rcases s.ad x ⟨i, k, h, h2, h3⟩ with ⟨i', k', g1, g2, g3⟩ | h4
      · exact .inl ⟨i', k', hsub.tr i' k' g1, g2, g3⟩
      · exact .inr h4
end mems

def updN {α : Type} (f : Nat → α) (i : Nat) (v : α) : Nat → α := fun j => if j = i then v else f j
theorem updN_same {α : Type} {f : Nat → α} {i : Nat} {v : α} : updN f i v i = v := if_pos rfl
theorem updN_ne {α : Type} {f : Nat → α} {i j : Nat} {v : α} (h : j ≠ i) : updN f i v j = f j := if_neg h
theorem updN_lt {α : Type} {f : Nat → α} {i j : Nat} {v : α} (h : j < i) : updN f i v j = f j := if_neg (by omega)

/-! ### the entries of some of a map's operations -/

def insL (G : List (Nat × (V × V))) (S : Nat → Bool) : List (V × V) := (G.filter fun x => S x.1).map (·.2)

theorem insL_congr {S S' : Nat → Bool} : ∀ {G : List (Nat × (V × V))}, (∀ x ∈ G, S x.1 = S' x.1) → insL G S = insL G S'
  | [], _ => rfl
  | x :: G, h => by
    have ih := insL_congr (G := G) fun y hy => h y (.tail _ hy)
    unfold insL at ih ⊢
    rw [List.filter_cons, List.filter_cons, h x (.head _)]
    split <;> simp [ih]

theorem insL_none {S : Nat → Bool} {G : List (Nat × (V × V))} (h : ∀ x ∈ G, S x.1 = false) : insL G S = [] := by
  unfold insL
  rw [List.filter_eq_nil_iff.2 (fun x hx => by simp [h x hx])]
  rfl

theorem insL_all {S : Nat → Bool} {G : List (Nat × (V × V))} (h : ∀ x ∈ G, S x.1 = true) : insL G S = G.map (·.2) := by
  unfold insL
  rw [List.filter_eq_self.2 (fun x hx => by simp [h x hx])]

theorem mem_insL {S : Nat → Bool} {G : List (Nat × (V × V))} {e : V × V} : e ∈ insL G S ↔ ∃ x ∈ G, S x.1 = true ∧ x.2 = e := by
  unfold insL
  rw [List.mem_map]
  constructor
  · rintro ⟨x, hx, rfl⟩
    obtain ⟨h1, h2⟩ := List.mem_filter.1 hx
    exact ⟨x, h1, h2, rfl⟩
  · rintro ⟨x, h1, h2, rfl⟩
    exact ⟨x, List.mem_filter.2 ⟨h1, h2⟩, rfl⟩

theorem insL_new {S : Nat → Bool} {j : Nat} {kv : V × V} (hS : S j = false) : ∀ {G : List (Nat × (V × V))}, (G.map (·.1)).Nodup → (j, kv) ∈ G → (insL G (updN S j true)).Perm (kv :: insL G S)
  | [], _, h => nomatch h
  | x :: G, hn, h => by
    rw [List.map_cons, List.nodup_cons] at hn
    cases h with
    | head =>
      have hne : ∀ y ∈ G, y.1 ≠ j := fun y hy e => hn.1 (List.mem_map.2 ⟨y, hy, e⟩)
      have e : insL G (updN S j true) = insL G S := insL_congr fun y hy => updN_ne (hne y hy)
      unfold insL at e ⊢
      rw [List.filter_cons, List.filter_cons]
      simp only [updN_same, hS]
      simp [e]
    | tail _ h =>
      have ih := insL_new hS hn.2 h
      have hx : x.1 ≠ j := fun e => hn.1 (List.mem_map.2 ⟨(j, kv), h, e.symm⟩)
      unfold insL at ih ⊢
      rw [List.filter_cons, List.filter_cons, updN_ne hx]
      cases hs : S x.1 with
      | true => simpa using (ih.cons x.2).trans (List.Perm.swap kv x.2 _)
      | false => simpa using ih

section cert
variable {P : Program} {ρ : Nat → Int} {ops : Array Oper} {n : Nat} {env0 : Env} {m0 : Mem}

def dstAt (ops : Array Oper) (j : Nat) : Option Nat := (ops[j]?).bind (·.dst)

/-- the slots behind the first j operations, in the order of the text -/
noncomputable def envT (ops : Array Oper) (val : Nat → V) (env0 : Env) : Nat → Env
  | 0 => env0
  | j + 1 => putE (dstAt ops j) (envT ops val env0 j) (val j)

theorem envT_congr {val val' : Nat → V} : ∀ {j : Nat}, (∀ x, x < j → val' x = val x) → envT ops val' env0 j = envT ops val env0 j
  | 0, _ => rfl
  | j + 1, h => by rw [envT, envT, envT_congr (fun x hx => h x (by omega)), h j (by omega)]

theorem envT_upd {val : Nat → V} {i j : Nat} {v : V} (h : j ≤ i) : envT ops (updN val i v) env0 j = envT ops val env0 j :=
  envT_congr fun x hx => updN_lt (by omega)

theorem slot_step {d : Option Nat} (h : slotOk d n = true) : ∀ t, d = some t → t < n := by
  rintro t rfl
  exact (blt_iff _ _).1 h

theorem lt_split {j i : Nat} (h : j < i + 1) : j < i ∨ j = i := by omega

/-! ### what each operation does -/

/-- an operation reads; or it is the effect of a level; or makes a block; or lays an entry into the block that an operation made -/
inductive Cl where
  | rd
  | ef (a : Nat)
  | mk
  | ins (s : Nat)

/-- what is known of a run's operations: what they give, what they are, the blocks that they make with their entries, the levels at which these are shut; what shuts at a level; the memories, without the blocks that are not shut -/
structure Data where
  val : Nat → V
  cl : Nat → Cl
  con : Nat → Blk
  ent : Nat → List (Nat × (V × V))
  kt : Nat → TypeId
  cls : Nat → Option Nat
  kd : Nat → Option Nat
  base : Nat → Mem

def Data.lev (D : Data) (j : Nat) : Option Nat := match D.cl j with
  | .rd => none
  | .ef a => some a
  | .mk => D.cls j
  | .ins s => D.cls s

def entB (con : Blk) : List (V × V) → Blk
  | [] => con
  | x :: l => .pm (x :: l) true

def Data.cnt (D : Data) (s : Nat) (S : Nat → Bool) : Blk := match D.cl s with
  | .mk => if S s = true then entB (D.con s) (insL (D.ent s) S) else .rsv
  | _ => .rsv

noncomputable def alAt (ops : Array Oper) (s : Nat) : Bool := match ops[s]? with
  | none => false
  | some o => isAl o.op

def InsAt (P : Program) (ρ : Nat → Int) (ops : Array Oper) (n : Nat) (o : Oper) (env : Env) (b : Nat) (kt : TypeId) (v : V) (kv : V × V) : Prop :=
  ∀ u B es, u.tr.get b = some B → MapB B es → (∀ e ∈ es, Apart P kt ρ kv.1 e.1) → Does P ρ ops n o env u v (setB u b (.pm (es ++ [kv]) true))

/-- blocks that are made before an operation are there, also while they are not shut -/
def Data.here (D : Data) (ops : Array Oper) (b0 j x : Nat) (u : Mem) : Prop := ∀ s a, D.cls s = some a → x ≤ a → D.ent s = [] → Anc ops j s → u.tr.get (b0 + s) = some (D.con s)

/-- the blocks that the first i operations make -/
structure Side (P : Program) (ρ : Nat → Int) (ops : Array Oper) (n : Nat) (env0 : Env) (b0 : Nat) (i : Nat) (D : Data) : Prop where
  fresh : ∀ j, i ≤ j → D.cl j = .rd
  made : ∀ j o, ops[j]? = some o → D.cl j = .mk → isAl o.op = true ∧ (D.con j).wrB = true ∧ ∀ u, u.tr.get (b0 + j) = some .rsv → DoesN b0 P ρ ops n o (envT ops D.val env0 j) u (D.val j) (setB u (b0 + j) (D.con j))
  ins : ∀ j s, D.cl j = .ins s → D.cl s = .mk ∧ Anc ops j s ∧ ∃ kv, (j, kv) ∈ D.ent s
  ent : ∀ s j kv, D.cl s = .mk → (j, kv) ∈ D.ent s → D.cl j = .ins s ∧ D.con s = .map [] 0 true ∧ ∀ o, ops[j]? = some o → InsAt P ρ ops n o (envT ops D.val env0 j) (b0 + s) (D.kt s) (D.val j) kv
  nodup : ∀ s, D.cl s = .mk → ((D.ent s).map (·.1)).Nodup
  apart : ∀ s x y, D.cl s = .mk → x ∈ D.ent s → y ∈ D.ent s → x.1 ≠ y.1 → Apart P (D.kt s) ρ x.2.1 y.2.1

/-- the first i operations, in k levels -/
structure Cert (P : Program) (ρ : Nat → Int) (ops : Array Oper) (n : Nat) (env0 : Env) (m0 : Mem) (i k : Nat) (D : Data) (cur : Mem) : Prop where
  side : Side P ρ ops n env0 m0.nb i D
  cfresh : ∀ s, D.cl s ≠ .mk → D.cls s = none
  ef : ∀ j o a, ops[j]? = some o → D.cl j = .ef a → Does P ρ ops n o (envT ops D.val env0 j) (D.base a) (D.val j) (D.base (a + 1))
  efk : ∀ j a, D.cl j = .ef a → a < k ∧ D.kd a = none
  efu : ∀ j j' a, D.cl j = .ef a → D.cl j' = .ef a → j = j'
  chain : ∀ j a, D.cl j = .ef a → ∀ e b, D.lev e = some b → b < a → Anc ops j e
  reads : ∀ j o x, j < i → ops[j]? = some o → D.cl j = .rd → x ≤ k → (x = k ∨ ∃ e, D.lev e = some x ∧ ¬ Anc ops j e) → (∀ e b, D.lev e = some b → Anc ops e j → x ≤ b) →
    ∀ u, MemSub u (D.base x) → D.here ops m0.nb j x u → Does P ρ ops n o (envT ops D.val env0 j) u (D.val j) u
  kdn : ∀ a, a < k → D.kd a = none → ∃ j, D.cl j = .ef a
  kds : ∀ a s, a < k → D.kd a = some s → D.cls s = some a ∧ D.base (a + 1) = setB (D.base a) (m0.nb + s) (D.cnt s fun _ => true)
  clsk : ∀ s a, D.cls s = some a → a < k ∧ D.kd a = some s
  gone : ∀ x s, x ≤ k → alAt ops s = true → (∀ a, D.cls s = some a → x ≤ a) → (D.base x).tr.get (m0.nb + s) = none
  start : D.base 0 = upM m0 ops.size
  top : D.base k = cur
  slot : ∀ j d, j < i → dstAt ops j = some d → d < n

section step
variable {i k : Nat} {D D' : Data} {cur m1 : Mem} {o : Oper} {v : V} {b0 : Nat}

theorem Side.lt (S : Side P ρ ops n env0 b0 i D) {j : Nat} (h : D.cl j ≠ .rd) : j < i := Nat.lt_of_not_le fun h1 => h (S.fresh j h1)

theorem Side.entlt (S : Side P ρ ops n env0 b0 i D) {s j : Nat} {kv : V × V} (h : D.cl s = .mk) (hj : (j, kv) ∈ D.ent s) : j < i := S.lt (by rw [(S.ent s j kv h hj).1]; exact fun h => nomatch h)

theorem Side.same (S : Side P ρ ops n env0 b0 i D) (h1 : D'.val = D.val) (h2 : D'.cl = D.cl) (h3 : D'.con = D.con) (h4 : D'.ent = D.ent) (h5 : D'.kt = D.kt) : Side P ρ ops n env0 b0 i D' := by
  refine ⟨?_, ?_, ?_, ?_, ?_, ?_⟩ <;> simp only [h1, h2, h3, h4, h5]
  · exact S.fresh
  · exact S.made
  · exact S.ins
  · exact S.ent
  · exact S.nodup
  · exact S.apart

theorem Side.addPlain (S : Side P ρ ops n env0 b0 i D) {c : Cl} (hc : c = .rd ∨ ∃ a, c = .ef a) (h1 : D'.val = updN D.val i v) (h2 : D'.cl = updN D.cl i c) (h3 : D'.con = D.con) (h4 : D'.ent = D.ent) (h5 : D'.kt = D.kt) : Side P ρ ops n env0 b0 (i + 1) D' := by
  have hne : ∀ {j}, D'.cl j = .mk → j ≠ i ∧ D.cl j = .mk := by
    intro j h
    rw [h2] at h
    by_cases e : j = i
    · subst e; rw [updN_same] at h; subst h; rcases hc with h | ⟨_, h⟩ <;> exact nomatch h
    · rw [updN_ne e] at h; exact ⟨e, h⟩
  have back : ∀ {j}, j < i → D'.cl j = D.cl j ∧ D'.val j = D.val j ∧ envT ops D'.val env0 j = envT ops D.val env0 j := fun {j} h => ⟨by rw [h2, updN_lt h], by rw [h1, updN_lt h], by rw [h1, envT_upd (by omega)]⟩
  have hmk : ∀ {j}, D.cl j = .mk → j < i := fun h => S.lt (by rw [h]; exact fun h => nomatch h)
  refine ⟨fun j hj => ?_, fun j o' ho' h => ?_, fun j s h => ?_, fun s j kv h hj => ?_, fun s h => ?_, fun s x y h => ?_⟩
  · rw [h2, updN_ne (by omega)]; exact S.fresh j (by omega)
  · obtain ⟨_, h6⟩ := hne h
    obtain ⟨_, e2, e3⟩ := back (hmk h6)
    rw [e2, e3, h3]
    exact S.made j o' ho' h6
  · have hji : j ≠ i ∧ D.cl j = .ins s := by
      rw [h2] at h
      by_cases e : j = i
      · subst e; rw [updN_same] at h; subst h; rcases hc with h | ⟨_, h⟩ <;> exact nomatch h
      · rw [updN_ne e] at h; exact ⟨e, h⟩
    obtain ⟨k1, k2, k3⟩ := S.ins j s hji.2
    rw [(back (hmk k1)).1, h4]
    exact ⟨k1, k2, k3⟩
  · obtain ⟨_, h6⟩ := hne h
    rw [h4] at hj
    obtain ⟨e1, e2, e3⟩ := back (S.entlt h6 hj)
    rw [e1, e2, e3, h3, h5]
    exact S.ent s j kv h6 hj
  · rw [h4]; exact S.nodup s (hne h).2
  · rw [h4, h5]; exact S.apart s x y (hne h).2

theorem Side.addMk (S : Side P ρ ops n env0 b0 i D) (ho : ops[i]? = some o) {B : Blk} {kt : TypeId} (hal : isAl o.op = true) (hw : B.wrB = true) (hd : ∀ u, u.tr.get (b0 + i) = some .rsv → DoesN b0 P ρ ops n o (envT ops D.val env0 i) u v (setB u (b0 + i) B)) :
    Side P ρ ops n env0 b0 (i + 1) { D with val := updN D.val i v, cl := updN D.cl i .mk, con := updN D.con i B, ent := updN D.ent i [], kt := updN D.kt i kt } := by
  have old : ∀ {j}, j ≠ i → updN D.cl i .mk j = D.cl j := fun h => updN_ne h
  have hlt : ∀ {j}, D.cl j = .mk → j < i := fun h => S.lt (by rw [h]; exact fun h => nomatch h)
  refine ⟨fun j hj => ?_, fun j o' ho' h => ?_, fun j s h => ?_, fun s j kv h hj => ?_, fun s h => ?_, fun s x y h hx hy => ?_⟩ <;> dsimp only at *
  · rw [old (by omega)]; exact S.fresh j (by omega)
  · by_cases e : j = i
    · subst e
      rw [ho] at ho'; obtain rfl := Option.some.inj ho'
      rw [updN_same, updN_same, envT_upd (Nat.le_refl _)]
      exact ⟨hal, hw, hd⟩
    · rw [old e] at h
      rw [updN_ne e, updN_ne e, envT_upd (Nat.le_of_lt (hlt h))]
      exact S.made j o' ho' h
  · by_cases e : j = i
    · subst e; rw [updN_same] at h; exact nomatch h
    · rw [old e] at h
      obtain ⟨k1, k2, k3⟩ := S.ins j s h
      have := hlt k1
      rw [old (by omega), updN_ne (by omega)]
      exact ⟨k1, k2, k3⟩
  · by_cases e : s = i
    · subst e; rw [updN_same] at hj; exact nomatch hj
    · rw [old e] at h
      rw [updN_ne e] at hj
      have := S.entlt h hj
      rw [old (by omega), updN_ne e, updN_ne e, updN_ne (by omega), envT_upd (by omega)]
      exact S.ent s j kv h hj
  · by_cases e : s = i
    · subst e; rw [updN_same]; exact List.nodup_nil
    · rw [old e] at h
      rw [updN_ne e]; exact S.nodup s h
  · by_cases e : s = i
    · subst e; rw [updN_same] at hx; exact nomatch hx
    · rw [old e] at h
      rw [updN_ne e] at hx hy ⊢
      exact S.apart s x y h hx hy

theorem Side.addIns (S : Side P ρ ops n env0 b0 i D) (ho : ops[i]? = some o) {s : Nat} (hmk : D.cl s = .mk) (hanc : Anc ops i s) (hcon : D.con s = .map [] 0 true) {kv : V × V} (hi : InsAt P ρ ops n o (envT ops D.val env0 i) (b0 + s) (D.kt s) v kv)
    (hap : ∀ e ∈ (D.ent s).map (·.2), Apart P (D.kt s) ρ kv.1 e.1 ∧ Apart P (D.kt s) ρ e.1 kv.1) :
    Side P ρ ops n env0 b0 (i + 1) { D with val := updN D.val i v, cl := updN D.cl i (.ins s), ent := updN D.ent s (D.ent s ++ [(i, kv)]) } := by
  have hlt : ∀ {j}, D.cl j = .mk → j < i := fun h => S.lt (by rw [h]; exact fun h => nomatch h)
  have hsi : s < i := hlt hmk
  have hne : ∀ {j}, updN D.cl i (.ins s) j = .mk → j ≠ i ∧ D.cl j = .mk := by
    intro j h
    by_cases e : j = i
    · subst e; rw [updN_same] at h; exact nomatch h
    · rw [updN_ne e] at h; exact ⟨e, h⟩
  have hin : ∀ {t j kw}, D.cl t = .mk → (j, kw) ∈ updN D.ent s (D.ent s ++ [(i, kv)]) t → (j, kw) ∈ D.ent t ∨ t = s ∧ j = i ∧ kw = kv := by
    intro t j kw ht h
    by_cases e : t = s
    · subst e
      rw [updN_same] at h
      rcases List.mem_append.1 h with h | h
      · exact .inl h
      · have h : (j, kw) = (i, kv) := by simpa using h
        exact .inr ⟨rfl, congrArg Prod.fst h, congrArg Prod.snd h⟩
    · rw [updN_ne e] at h; exact .inl h
  refine ⟨fun j hj => ?_, fun j o' ho' h => ?_, fun j t h => ?_, fun t j kw h hj => ?_, fun t h => ?_, fun t x y h hx hy hxy => ?_⟩ <;> dsimp only at *
  · rw [updN_ne (by omega)]; exact S.fresh j (by omega)
  · obtain ⟨e, h⟩ := hne h
    rw [updN_ne e, envT_upd (Nat.le_of_lt (hlt h))]
    exact S.made j o' ho' h
  · by_cases e : j = i
    · subst e
      rw [updN_same] at h
      obtain rfl := Cl.ins.inj h
      rw [updN_ne (by omega), updN_same]
      exact ⟨hmk, hanc, kv, by simp⟩
    · rw [updN_ne e] at h
      obtain ⟨k1, k2, kw, k3⟩ := S.ins j t h
      have := hlt k1
      rw [updN_ne (by omega)]
      refine ⟨k1, k2, kw, ?_⟩
      by_cases e : t = s
      · subst e; rw [updN_same]; exact List.mem_append_left _ k3
      · rw [updN_ne e]; exact k3
  · obtain ⟨_, h⟩ := hne h
    rcases hin h hj with hj | ⟨rfl, rfl, rfl⟩
    · have := S.entlt h hj
      rw [updN_ne (by omega), updN_ne (by omega), envT_upd (by omega)]
      exact S.ent t j kw h hj
    · rw [updN_same, updN_same, envT_upd (Nat.le_refl _)]
      refine ⟨rfl, hcon, fun o' ho' => ?_⟩
      rw [ho] at ho'; obtain rfl := Option.some.inj ho'
      exact hi
  · obtain ⟨_, hm⟩ := hne h
    by_cases e : t = s
    · subst e
      rw [updN_same, List.map_append, List.nodup_append]
      refine ⟨S.nodup t hm, by simp, fun x hx y hy => ?_⟩
      obtain ⟨z, hz, rfl⟩ := List.mem_map.1 hx
      have := S.entlt (kv := z.2) hm hz
      simp at hy
      omega
    · rw [updN_ne e]; exact S.nodup t hm
  · obtain ⟨_, hm⟩ := hne h
    clear h
    obtain ⟨j, kx⟩ := x
    obtain ⟨j', ky⟩ := y
    rcases hin hm hx with hx1 | ⟨e1, e2, e3⟩ <;> rcases hin hm hy with hy1 | ⟨e4, e5, e6⟩
    · exact S.apart t _ _ hm hx1 hy1 hxy
    · subst e4 e6
      exact (hap kx (List.mem_map.2 ⟨(j, kx), hx1, rfl⟩)).2
    · subst e1 e3
      exact (hap ky (List.mem_map.2 ⟨(j', ky), hy1, rfl⟩)).1
    · exact absurd (e2.trans e5.symm) hxy

theorem Cert.levk (C : Cert P ρ ops n env0 m0 i k D cur) {e b : Nat} (h : D.lev e = some b) : b < k := by
  unfold Data.lev at h
  cases hc : D.cl e <;> rw [hc] at h <;> dsimp only at h
  · exact nomatch h
  · obtain rfl := Option.some.inj h; exact (C.efk e _ hc).1
  · exact (C.clsk _ _ h).1
  · exact (C.clsk _ _ h).1

theorem Cert.levlt (C : Cert P ρ ops n env0 m0 i k D cur) {e b : Nat} (h : D.lev e = some b) : e < i := by
  refine C.side.lt fun h1 => ?_
  unfold Data.lev at h
  rw [h1] at h; exact nomatch h

theorem Cert.slot_new (C : Cert P ρ ops n env0 m0 i k D cur) (ho : ops[i]? = some o) (hs : slotOk o.dst n = true) : ∀ j d, j < i + 1 → dstAt ops j = some d → d < n := by
  intro j d hj hdj
  rcases lt_split hj with h | rfl
  · exact C.slot j d h hdj
  · unfold dstAt at hdj; rw [ho] at hdj; exact slot_step hs d hdj

/-- one more operation, the levels being the same -/
theorem Cert.addSame (C : Cert P ρ ops n env0 m0 i k D cur) (ho : ops[i]? = some o) (hs : slotOk o.dst n = true) {c : Cl} (h1 : D'.val = updN D.val i v) (h2 : D'.cl = updN D.cl i c) (h3 : D'.cls = D.cls) (h4 : D'.kd = D.kd) (h5 : D'.base = D.base) (hside : Side P ρ ops n env0 m0.nb (i + 1) D')
    (hcnt : ∀ s a, D.cls s = some a → D'.cnt s (fun _ => true) = D.cnt s fun _ => true) (hce : ∀ s a, D.cls s = some a → D'.con s = D.con s ∧ D'.ent s = D.ent s)
    (hc : c = .rd ∧ (∀ x, x ≤ k → (x = k ∨ ∃ e, D.lev e = some x ∧ ¬ Anc ops i e) → ∀ u, MemSub u (D.base x) → D.here ops m0.nb i x u → Does P ρ ops n o (envT ops D.val env0 i) u v u) ∨ c = .mk ∨ ∃ s, c = .ins s ∧ D.cls s = none) :
    Cert P ρ ops n env0 m0 (i + 1) k D' cur := by
  have hi : D.cl i = .rd := C.side.fresh i (Nat.le_refl _)
  have hci : D.cls i = none := C.cfresh i (by rw [hi]; exact fun h => nomatch h)
  have hlev : D'.lev = D.lev := by
    funext e
    unfold Data.lev
    by_cases he : e = i
    · subst he
      rw [h2, updN_same, hi, h3]
      rcases hc with ⟨rfl, _⟩ | rfl | ⟨s, rfl, hs⟩
      · rfl
      · exact hci
      · exact hs
    · rw [h2, updN_ne he, h3]
  have hef : ∀ {j a}, D'.cl j = .ef a → j < i ∧ D.cl j = .ef a := by
    intro j a h
    rw [h2] at h
    by_cases he : j = i
    · subst he
      rw [updN_same] at h; subst h
      rcases hc with ⟨h, _⟩ | h | ⟨s, h, _⟩ <;> exact nomatch h
    · rw [updN_ne he] at h
      exact ⟨C.side.lt (by rw [h]; exact fun h => nomatch h), h⟩
  have hhere : ∀ {j x u}, D'.here ops m0.nb j x u → D.here ops m0.nb j x u := fun {j x u} hh s a hs hx he ha => by
    obtain ⟨e1, e2⟩ := hce s a hs
    rw [← e1]
    exact hh s a (by rw [h3]; exact hs) hx (by rw [e2]; exact he) ha
  refine ⟨hside, fun s h => ?_, fun j o' a ho' h => ?_, fun j a h => ?_, fun j j' a h h' => C.efu j j' a (hef h).2 (hef h').2, fun j a h => ?_, fun j o' x hj ho' hrd => ?_, fun a ha h => ?_, fun a s ha h => ?_, fun s a h => ?_, fun x s => ?_, ?_, ?_, C.slot_new ho hs⟩
  · rw [h3]
    by_cases he : s = i
    · subst he; exact hci
    · rw [h2, updN_ne he] at h; exact C.cfresh s h
  · obtain ⟨hj, h⟩ := hef h
    rw [h1, h5, envT_upd (Nat.le_of_lt hj), updN_lt hj]
    exact C.ef j o' a ho' h
  · rw [h4]; exact C.efk j a (hef h).2
  · rw [hlev]; exact C.chain j a (hef h).2
  · rw [hlev, h5, h1]
    rcases lt_split hj with hj | rfl
    · rw [h2, updN_lt hj] at hrd
      rw [envT_upd (Nat.le_of_lt hj), updN_lt hj]
      exact fun hx hp hq u hu hh => C.reads j o' x hj ho' hrd hx hp hq u hu (hhere hh)
    · rw [ho] at ho'; obtain rfl := Option.some.inj ho'
      rw [envT_upd (Nat.le_refl _), updN_same]
      rw [h2, updN_same] at hrd
      rcases hc with ⟨_, h⟩ | h | ⟨s, h, _⟩
      · exact fun hx hp _ u hu hh => h x hx hp u hu (hhere hh)
      · rw [h] at hrd; exact nomatch hrd
      · rw [h] at hrd; exact nomatch hrd
  · rw [h4] at h
    obtain ⟨j, hj⟩ := C.kdn a ha h
    refine ⟨j, ?_⟩
    rw [h2, updN_ne]
    · exact hj
    · rintro rfl; rw [hi] at hj; exact nomatch hj
  · rw [h4] at h
    obtain ⟨k1, k2⟩ := C.kds a s ha h
    rw [h3, h5, hcnt s a k1]
    exact ⟨k1, k2⟩
  · rw [h3] at h; rw [h4]; exact C.clsk s a h
  · rw [h3, h5]; exact C.gone x s
  · rw [h5]; exact C.start
  · rw [h5]; exact C.top

theorem Cert.addRd (C : Cert P ρ ops n env0 m0 i k D cur) (ho : ops[i]? = some o) (hs : slotOk o.dst n = true) (hr : ∀ x, x ≤ k → (x = k ∨ ∃ e, D.lev e = some x ∧ ¬ Anc ops i e) → ∀ u, MemSub u (D.base x) → D.here ops m0.nb i x u → Does P ρ ops n o (envT ops D.val env0 i) u v u) :
    Cert P ρ ops n env0 m0 (i + 1) k { D with val := updN D.val i v, cl := updN D.cl i .rd } cur := by
  have hi : D.cl i = .rd := C.side.fresh i (Nat.le_refl _)
  have e : updN D.cl i .rd = D.cl := by
    funext j
    by_cases h : j = i
    · subst h; rw [updN_same, hi]
    · exact updN_ne h
  refine C.addSame ho hs (c := .rd) rfl rfl rfl rfl rfl (C.side.addPlain (.inl rfl) rfl rfl rfl rfl rfl) (fun s a _ => ?_) (fun s a _ => ⟨rfl, rfl⟩) (.inl ⟨rfl, hr⟩)
  unfold Data.cnt
  rw [e]

theorem Cert.addMk (C : Cert P ρ ops n env0 m0 i k D cur) (ho : ops[i]? = some o) (hs : slotOk o.dst n = true) {B : Blk} {kt : TypeId} (hal : isAl o.op = true) (hw : B.wrB = true) (hd : ∀ u, u.tr.get (m0.nb + i) = some .rsv → DoesN m0.nb P ρ ops n o (envT ops D.val env0 i) u v (setB u (m0.nb + i) B)) :
    Cert P ρ ops n env0 m0 (i + 1) k { D with val := updN D.val i v, cl := updN D.cl i .mk, con := updN D.con i B, ent := updN D.ent i [], kt := updN D.kt i kt } cur := by
  have hi : D.cl i = .rd := C.side.fresh i (Nat.le_refl _)
  have hne : ∀ s a, D.cls s = some a → s ≠ i := by
    rintro s a h rfl
    rw [C.cfresh _ (by rw [hi]; exact fun h => nomatch h)] at h; exact nomatch h
  refine C.addSame ho hs (c := .mk) rfl rfl rfl rfl rfl (C.side.addMk ho hal hw hd) (fun s a h => ?_) (fun s a h => ⟨updN_ne (hne s a h), updN_ne (hne s a h)⟩) (.inr (.inl rfl))
  have hsi := hne s a h
  unfold Data.cnt
  dsimp only
  rw [updN_ne hsi, updN_ne hsi, updN_ne hsi]

theorem Cert.addIns (C : Cert P ρ ops n env0 m0 i k D cur) (ho : ops[i]? = some o) (hs : slotOk o.dst n = true) {s : Nat} (hmk : D.cl s = .mk) (hcl : D.cls s = none) (hanc : Anc ops i s) (hcon : D.con s = .map [] 0 true) {kv : V × V} (hi : InsAt P ρ ops n o (envT ops D.val env0 i) (m0.nb + s) (D.kt s) v kv)
    (hap : ∀ e ∈ (D.ent s).map (·.2), Apart P (D.kt s) ρ kv.1 e.1 ∧ Apart P (D.kt s) ρ e.1 kv.1) :
    Cert P ρ ops n env0 m0 (i + 1) k { D with val := updN D.val i v, cl := updN D.cl i (.ins s), ent := updN D.ent s (D.ent s ++ [(i, kv)]) } cur := by
  have hir : D.cl i = .rd := C.side.fresh i (Nat.le_refl _)
  refine C.addSame ho hs (c := .ins s) rfl rfl rfl rfl rfl (C.side.addIns ho hmk hanc hcon hi hap) (fun t a h => ?_) (fun t a h => ⟨rfl, updN_ne (by rintro rfl; rw [hcl] at h; exact nomatch h)⟩) (.inr (.inr ⟨s, rfl, hcl⟩))
  have hti : t ≠ i := by
    rintro rfl
    rw [C.cfresh _ (by rw [hir]; exact fun h => nomatch h)] at h; exact nomatch h
  have hts : t ≠ s := by
    rintro rfl
    rw [hcl] at h; exact nomatch h
  unfold Data.cnt
  dsimp only
  rw [updN_ne hti, updN_ne hts]

/-- one more operation that has an effect: a level -/
theorem Cert.addEf (C : Cert P ρ ops n env0 m0 i k D cur) (ho : ops[i]? = some o) (hs : slotOk o.dst n = true) (hd : Does P ρ ops n o (envT ops D.val env0 i) cur v m1) (hall : ∀ e b, D.lev e = some b → Anc ops i e)
    (hgone : ∀ s, alAt ops s = true → D.cls s = none → m1.tr.get (m0.nb + s) = none)
    (hr : ∀ (j : Nat) (o' : Oper), j < i → ops[j]? = some o' → D.cl j = .rd → (∃ e b, D.lev e = some b ∧ Anc ops e j) ∨ Anc ops i j ∨ ∀ u, MemSub u m1 → Does P ρ ops n o' (envT ops D.val env0 j) u (D.val j) u) :
    Cert P ρ ops n env0 m0 (i + 1) (k + 1) { D with val := updN D.val i v, cl := updN D.cl i (.ef k), kd := updN D.kd k none, base := updN D.base (k + 1) m1 } m1 := by
  have hi : D.cl i = .rd := C.side.fresh i (Nat.le_refl _)
  generalize hD' : ({ D with val := updN D.val i v, cl := updN D.cl i (.ef k), kd := updN D.kd k none, base := updN D.base (k + 1) m1 } : Data) = D'
  have h1 : D'.val = updN D.val i v := by rw [← hD']
  have h2 : D'.cl = updN D.cl i (.ef k) := by rw [← hD']
  have h3 : D'.cls = D.cls := by rw [← hD']
  have h4 : D'.kd = updN D.kd k none := by rw [← hD']
  have h5 : D'.base = updN D.base (k + 1) m1 := by rw [← hD']
  have h6 : D'.con = D.con := by rw [← hD']
  have h7 : D'.ent = D.ent := by rw [← hD']
  have h8 : D'.kt = D.kt := by rw [← hD']
  clear hD'
  have hlev : ∀ {e}, e ≠ i → D'.lev e = D.lev e := fun {e} he => by unfold Data.lev; rw [h2, updN_ne he, h3]
  have hlevi : D'.lev i = some k := by unfold Data.lev; rw [h2, updN_same]
  have hlev2 : ∀ {e b}, D'.lev e = some b → e ≠ i ∧ D.lev e = some b ∨ e = i ∧ b = k := by
    intro e b h
    by_cases he : e = i
    · subst he; rw [hlevi] at h; exact .inr ⟨rfl, (Option.some.inj h).symm⟩
    · rw [hlev he] at h; exact .inl ⟨he, h⟩
  have hlev3 : ∀ {e b}, D.lev e = some b → D'.lev e = some b := fun {e b} h => by
    rw [hlev]
    · exact h
    · have := C.levlt h; omega
  have hef : ∀ {j a}, D'.cl j = .ef a → j < i ∧ D.cl j = .ef a ∨ j = i ∧ a = k := by
    intro j a h
    rw [h2] at h
    by_cases he : j = i
    · subst he
      rw [updN_same] at h
      exact .inr ⟨rfl, (Cl.ef.inj h).symm⟩
    · rw [updN_ne he] at h
      exact .inl ⟨C.side.lt (by rw [h]; exact fun h => nomatch h), h⟩
  have hcnt : ∀ {s a}, D.cls s = some a → D'.cnt s (fun _ => true) = D.cnt s (fun _ => true) := by
    intro s a h
    have hsi : s ≠ i := by
      rintro rfl
      rw [C.cfresh _ (by rw [hi]; exact fun h => nomatch h)] at h; exact nomatch h
    unfold Data.cnt
    rw [h2, updN_ne hsi, h6, h7]
  refine ⟨C.side.addPlain (.inr ⟨k, rfl⟩) h1 h2 h6 h7 h8, fun s h => ?_, fun j o' a ho' h => ?_, fun j a h => ?_, fun j j' a h h' => by
    rcases hef h with ⟨_, h⟩ | ⟨rfl, rfl⟩ <;> rcases hef h' with ⟨_, h'⟩ | ⟨h9, h10⟩
    · exact C.efu j j' a h h'
    · have := (C.efk j a h).1; omega
    · have := (C.efk j' _ h').1; omega
    · exact h9.symm, fun j a h e b he hb => ?_, fun j o' x hj ho' hrd hxk hp hq u hu hh => ?_, fun a ha h => ?_, fun a s ha h => ?_, fun s a h => ?_, fun x s hx ha hc => ?_, ?_, ?_, C.slot_new ho hs⟩
  · rw [h3]
    by_cases he : s = i
    · subst he; exact C.cfresh _ (by rw [hi]; exact fun h => nomatch h)
    · rw [h2, updN_ne he] at h; exact C.cfresh s h
  · rw [h1, h5]
    rcases hef h with ⟨hj, h⟩ | ⟨rfl, rfl⟩
    · have := (C.efk j a h).1
      rw [envT_upd (Nat.le_of_lt hj), updN_lt hj, updN_ne (by omega), updN_ne (by omega)]
      exact C.ef j o' a ho' h
    · rw [ho] at ho'; obtain rfl := Option.some.inj ho'
      rw [envT_upd (Nat.le_refl _), updN_same, updN_same, updN_ne (by omega), C.top]
      exact hd
  · rw [h4]
    rcases hef h with ⟨hj, h⟩ | ⟨rfl, rfl⟩
    · obtain ⟨k1, k2⟩ := C.efk j a h
      rw [updN_ne (by omega)]
      exact ⟨by omega, k2⟩
    · rw [updN_same]; exact ⟨by omega, rfl⟩
  · rcases hef h with ⟨hj, h⟩ | ⟨rfl, rfl⟩
    · have := (C.efk j a h).1
      rcases hlev2 he with ⟨_, he⟩ | ⟨_, h9⟩
      · exact C.chain j a h e b he hb
      · omega
    · rcases hlev2 he with ⟨_, he⟩ | ⟨_, h9⟩
      · exact hall e b he
      · omega
  · rcases lt_split hj with hj | rfl
    rotate_left
    · rw [h2, updN_same] at hrd; exact nomatch hrd
    rw [h2, updN_lt hj] at hrd
    rw [h1, envT_upd (Nat.le_of_lt hj), updN_lt hj]
    rw [h5] at hu
    by_cases hxt : x = k + 1
    · subst hxt
      rw [updN_same] at hu
      rcases hr j o' hj ho' hrd with ⟨e, b, he, hanc⟩ | hanc | hD
      · have := hq e b (hlev3 he) hanc
        have := C.levk he; omega
      · have := hq i k hlevi hanc; omega
      · exact hD u hu
    · rw [updN_ne hxt] at hu
      refine C.reads j o' x hj ho' hrd (by omega) ?_ (fun e b he hanc => hq e b (hlev3 he) hanc) u hu fun s a hs hx he ha => by rw [← h6]; exact hh s a (by rw [h3]; exact hs) hx (by rw [h7]; exact he) ha
      by_cases hxk2 : x = k
      · exact .inl hxk2
      · rcases hp with hp | ⟨e, he, hn⟩
        · omega
        · rcases hlev2 he with ⟨_, he⟩ | ⟨_, h9⟩
          · exact .inr ⟨e, he, hn⟩
          · omega
  · rw [h4] at h
    by_cases hak : a = k
    · subst hak; exact ⟨i, by rw [h2, updN_same]⟩
    · rw [updN_ne hak] at h
      obtain ⟨j, hj⟩ := C.kdn a (by omega) h
      refine ⟨j, ?_⟩
      rw [h2, updN_ne]
      · exact hj
      · rintro rfl; rw [hi] at hj; exact nomatch hj
  · rw [h4] at h
    by_cases hak : a = k
    · subst hak; rw [updN_same] at h; exact nomatch h
    · rw [updN_ne hak] at h
      obtain ⟨k1, k2⟩ := C.kds a s (by omega) h
      rw [h3, h5, hcnt k1, updN_ne (by omega), updN_ne (by omega)]
      exact ⟨k1, k2⟩
  · rw [h3] at h
    obtain ⟨k1, k2⟩ := C.clsk s a h
    rw [h4, updN_ne (by omega)]
    exact ⟨by omega, k2⟩
  · rw [h3] at hc
    rw [h5]
    by_cases hxt : x = k + 1
    · subst hxt
      rw [updN_same]
      refine hgone s ha ?_
      cases hcs : D.cls s with
      | none => rfl
      | some a =>
        have := (C.clsk s a hcs).1
        have := hc a hcs; omega
    · rw [updN_ne hxt]; exact C.gone x s (by omega) ha hc
  · rw [h5, updN_ne (by omega)]; exact C.start
  · rw [h5, updN_same]

theorem Cert.alAt (C : Cert P ρ ops n env0 m0 i k D cur) (hi : i ≤ ops.size) {s : Nat} (h : D.cl s = .mk) : alAt ops s = true := by
  have hs : s < i := C.side.lt (by rw [h]; exact fun h => nomatch h)
  have ho : ops[s]? = some ops[s] := Array.getElem?_eq_getElem (by omega)
  unfold Go.Sy.alAt
  rw [ho]
  exact (C.side.made s _ ho h).1

/-- a block is shut: a level -/
theorem Cert.shut (C : Cert P ρ ops n env0 m0 i k D cur) (hin : i ≤ ops.size) {s : Nat} (hmk : D.cl s = .mk) (hcl : D.cls s = none) :
    Cert P ρ ops n env0 m0 i (k + 1) { D with cls := updN D.cls s (some k), kd := updN D.kd k (some s), base := updN D.base (k + 1) (setB cur (m0.nb + s) (D.cnt s fun _ => true)) } (setB cur (m0.nb + s) (D.cnt s fun _ => true)) := by
  generalize hB : D.cnt s (fun _ => true) = B
  generalize hD' : ({ D with cls := updN D.cls s (some k), kd := updN D.kd k (some s), base := updN D.base (k + 1) (setB cur (m0.nb + s) B) } : Data) = D'
  have h1 : D'.val = D.val := by rw [← hD']
  have h2 : D'.cl = D.cl := by rw [← hD']
  have h3 : D'.cls = updN D.cls s (some k) := by rw [← hD']
  have h4 : D'.kd = updN D.kd k (some s) := by rw [← hD']
  have h5 : D'.base = updN D.base (k + 1) (setB cur (m0.nb + s) B) := by rw [← hD']
  have h6 : D'.con = D.con := by rw [← hD']
  have h7 : D'.ent = D.ent := by rw [← hD']
  have h8 : D'.kt = D.kt := by rw [← hD']
  clear hD'
  have hcnt : ∀ t S, D'.cnt t S = D.cnt t S := fun t S => by unfold Data.cnt; rw [h2, h6, h7]
  have hlev3 : ∀ {e b}, D.lev e = some b → D'.lev e = some b := by
    intro e b h
    unfold Data.lev at h ⊢
    rw [h2]
    cases hc : D.cl e <;> rw [hc] at h <;> dsimp only at h ⊢
    · exact nomatch h
    · exact h
    · rw [h3, updN_ne]
      · exact h
      · rintro rfl; rw [hcl] at h; exact nomatch h
    · rw [h3, updN_ne]
      · exact h
      · rintro rfl; rw [hcl] at h; exact nomatch h
  have hlev2 : ∀ {e b}, D'.lev e = some b → D.lev e = some b ∨ b = k := by
    intro e b h
    unfold Data.lev at h ⊢
    rw [h2] at h
    cases hc : D.cl e <;> rw [hc] at h <;> dsimp only at h ⊢
    · exact nomatch h
    · exact .inl h
    all_goals
      rw [h3] at h
      unfold updN at h
      split at h
      · exact .inr (Option.some.inj h).symm
      · exact .inl h
  have hgs : cur.tr.get (m0.nb + s) = none := by
    have := C.gone k s (Nat.le_refl _) (C.alAt hin hmk) (fun a h => by rw [hcl] at h; exact nomatch h)
    rw [C.top] at this; exact this
  refine ⟨C.side.same h1 h2 h6 h7 h8, fun t h => ?_, fun j o' a ho' h => ?_, fun j a h => ?_, fun j j' a h h' => C.efu j j' a (h2 ▸ h) (h2 ▸ h'), fun j a h e b he hb => ?_, fun j o' x hj ho' hrd hxk hp hq u hu hh => ?_, fun a ha h => ?_, fun a t ha h => ?_, fun t a h => ?_, fun x t hx ha hc => ?_, ?_, ?_, C.slot⟩
  · rw [h2] at h
    rw [h3, updN_ne]
    · exact C.cfresh t h
    · rintro rfl; exact h hmk
  · rw [h2] at h
    have := (C.efk j a h).1
    rw [h1, h5, updN_ne (by omega), updN_ne (by omega)]
    exact C.ef j o' a ho' h
  · rw [h2] at h
    obtain ⟨k1, k2⟩ := C.efk j a h
    rw [h4, updN_ne (by omega)]
    exact ⟨by omega, k2⟩
  · rw [h2] at h
    have := (C.efk j a h).1
    rcases hlev2 he with he | rfl
    · exact C.chain j a h e b he hb
    · omega
  · rw [h2] at hrd
    rw [h1]
    rw [h5] at hu
    by_cases hxt : x = k + 1
    · subst hxt
      rw [updN_same] at hu
      refine C.reads j o' k hj ho' hrd (Nat.le_refl _) (.inl rfl) (fun e b he hanc => ?_) u ?_ fun t a ht ha _ _ => by have := (C.clsk t a ht).1; omega
      · have := hq e b (hlev3 he) hanc; omega
      · rw [C.top]; exact hu.trans (setB_sub B hgs)
    · rw [updN_ne hxt] at hu
      refine C.reads j o' x hj ho' hrd (by omega) ?_ (fun e b he hanc => hq e b (hlev3 he) hanc) u hu fun t a ht hx he ha => by rw [← h6]; exact hh t a (by rw [h3, updN_ne (by rintro rfl; rw [hcl] at ht; exact nomatch ht)]; exact ht) hx (by rw [h7]; exact he) ha
      by_cases hxk2 : x = k
      · exact .inl hxk2
      · rcases hp with hp | ⟨e, he, hn⟩
        · omega
        · rcases hlev2 he with he | h9
          · exact .inr ⟨e, he, hn⟩
          · omega
  · rw [h4] at h
    by_cases hak : a = k
    · subst hak; rw [updN_same] at h; exact nomatch h
    · rw [updN_ne hak] at h
      rw [h2]
      exact C.kdn a (by omega) h
  · rw [h4] at h
    by_cases hak : a = k
    · subst hak
      rw [updN_same] at h
      obtain rfl := Option.some.inj h
      rw [h3, h5, updN_same, updN_same, updN_ne (by omega), hcnt, hB, C.top]
      exact ⟨rfl, rfl⟩
    · rw [updN_ne hak] at h
      obtain ⟨k1, k2⟩ := C.kds a t (by omega) h
      have hts : t ≠ s := by rintro rfl; rw [hcl] at k1; exact nomatch k1
      rw [h3, h5, hcnt, updN_ne hts, updN_ne (by omega : a + 1 ≠ k + 1), updN_ne (by omega : a ≠ k + 1)]
      exact ⟨k1, k2⟩
  · rw [h3] at h
    by_cases hts : t = s
    · subst hts
      rw [updN_same] at h
      obtain rfl := Option.some.inj h
      rw [h4, updN_same]; exact ⟨by omega, rfl⟩
    · rw [updN_ne hts] at h
      obtain ⟨k1, k2⟩ := C.clsk t a h
      rw [h4, updN_ne (by omega)]
      exact ⟨by omega, k2⟩
  · rw [h3] at hc
    rw [h5]
    by_cases hts : t = s
    · subst hts
      have := hc k updN_same
      rw [updN_ne (by omega)]
      exact C.gone x t (by omega) ha fun a h => by rw [hcl] at h; exact nomatch h
    · rw [updN_ne hts] at hc
      by_cases hxt : x = k + 1
      · subst hxt
        rw [updN_same, setB_get, if_neg (by omega), ← C.top]
        exact C.gone k t (Nat.le_refl _) ha fun a h => by have := hc a h; omega
      · rw [updN_ne hxt]; exact C.gone x t (by omega) ha hc
  · rw [h5, updN_ne (by omega)]; exact C.start
  · rw [h5, updN_same]
end step
end cert

end Go.Sy

