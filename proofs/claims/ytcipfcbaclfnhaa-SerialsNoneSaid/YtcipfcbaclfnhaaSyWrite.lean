/-
  What is proved here: the evaluator's made slices, stores, copies and appends are those of the model.
  Conditions: none.
-/
import Derived.Test.YtcipfcbaclfnhaaSyAlloc
import Derived.Laws.AppendOwn
namespace Go.Sy

section ops
variable {P : Program} {c : Cx} {m m' : Mem} {w : World} {p q : Pc}

theorem elemInfo_some {t : TypeId} {a : TypeId × Nat × Nat} (h : elemInfo P t = some a) : P.underlying t = some (.slice a.1) ∧ ∃ i, P.info? a.1 = some i ∧ i.size = a.2.1 ∧ i.bytes = a.2.2 := by
  unfold elemInfo at h
  split at h
  · rename_i e he
    split at h
    · rename_i i hi
      simp at h; subst h
      exact ⟨elemOf_some he, i, hi, rfl, rfl⟩
    · simp at h
  · simp at h

theorem zeroFits_some {i : TypeInfo} (h : zeroFits i = true) : ∃ z, i.zero = some z ∧ z.cells.size = i.size := by
  unfold zeroFits at h
  split at h
  · exact ⟨_, by assumption, (beq_iff _ _).1 h⟩
  · simp at h

theorem elemSz_some {t : TypeId} {a : Nat × Nat} (h : elemSz P t = some a) : ∃ e i z, P.underlying t = some (.slice e) ∧ P.info? e = some i ∧ i.size = a.1 ∧ i.bytes = a.2 ∧ 0 < i.size ∧ 0 < i.bytes ∧ i.zero = some z ∧ z.cells.size = i.size := by
  unfold elemSz at h
  split at h
  · rename_i e he
    split at h
    · rename_i i hi
      cases hb : (Nat.blt 0 i.size && Nat.blt 0 i.bytes && zeroFits i) <;> rw [hb] at h
      · simp at h
      · simp at h; subst h
        simp only [Bool.and_eq_true, blt_iff] at hb
        obtain ⟨z, hz, hzs⟩ := zeroFits_some hb.2
        exact ⟨e, i, z, elemOf_some he, hi, rfl, rfl, hb.1.1, hb.1.2, hz, hzs⟩
    · simp at h
  · simp at h

theorem wrap_small {n : Nat} (h : n ≤ 1099511627776) : IntKind.i64.wrap (n : Int) = n :=
  wrap_in .i64 n (by simp [kMin, IntKind.signed, limN]) (by simp [kMax, limN]; omega)

theorem run_askRoom (n : Nat) : (askRoom n).run P w = .ok () w := by
  unfold askRoom; split <;> rfl

theorem makeSlice_ok (hp : PcR c.ρ p) {t : TypeId} {a b : V} {A B : Value} {bs : Blk × Shp} (ha : VR c a A) (hb : VR c b B) (h : (makeSliceR P t a b).gives c.ρ m p bs q) : q = p ∧ AlOK P c w bs (Instr.makeSlice t A B) := by
  unfold makeSliceR at h
  cases he : elemInfo P t with
  | none => rw [he] at h; exact (R.gives_fail h).elim
  | some i =>
    rw [he] at h
    obtain ⟨hu, ti, hti, hsz, hby⟩ := elemInfo_some he
    obtain ⟨k, el, rfl, h1⟩ := onInt_gives (s := "makeSlice") (show (onInt a (fun _ el => onInt b (fun _ ec => (natR el).bnd fun len => (natR ec).bnd fun cap => makeSliceL P len cap i) (R.fail "makeSlice")) (R.fail "makeSlice")).gives c.ρ m p bs q from h)
    obtain ⟨k', ec, rfl, h2⟩ := onInt_gives h1
    obtain ⟨len, p1, h3, h4⟩ := R.gives_bnd h2
    obtain ⟨h5, rfl⟩ := natR_gives hp h3
    obtain ⟨cap, p2, h6, h7⟩ := R.gives_bnd h4
    obtain ⟨h8, rfl⟩ := natR_gives hp h6
    obtain ⟨rfl, _⟩ := VR.int.1 ha
    obtain ⟨rfl, _⟩ := VR.int.1 hb
    unfold makeSliceL at h7
    cases hz : zcells P i.1 i.2.1 cap with
    | none => rw [hz] at h7; exact (R.gives_fail h7).elim
    | some z =>
      rw [hz] at h7
      obtain ⟨h9, h10⟩ := R.gives_if (show (selB (andB (Nat.ble len cap) (andB (Nat.ble cap 1099511627776) (Nat.ble (Nat.mul i.2.2 cap) 1099511627776))) (R.pure (newCells (repl cap z), Shp.slice len cap)) (R.fail "makeSlice great")).gives c.ρ m p2 bs q from h7)
      obtain ⟨rfl, rfl⟩ := R.gives_pure h10
      simp only [andB_iff, ble_iff] at h9
      obtain ⟨h11, h12, h13⟩ := h9
      have h13 : i.2.2 * cap ≤ 1099511627776 := h13
      have h13' : (i.2.2 : Int) * (cap : Int) ≤ 1099511627776 := by
        have : ((i.2.2 * cap : Nat) : Int) ≤ 1099511627776 := by omega
        rw [Int.natCast_mul] at this
        exact this
      have w1 : IntKind.i64.wrap (el.den c.ρ) = len := by rw [h5]; exact wrap_small (by omega)
      have w2 : IntKind.i64.wrap (ec.den c.ρ) = cap := by rw [h8]; exact wrap_small h12
      have g1 : ¬ (281474976710656 < (ti.bytes : Int) * (cap : Int)) := by rw [hby]; omega
      have g2 : ¬ ((cap : Int) < 0) := by omega
      have g3 : ¬ ((len : Int) < 0) := by omega
      have g4 : ¬ ((cap : Int) < (len : Int)) := by omega
      have g5 : ¬ (cap < len) := by omega
      rcases zcells_ok (c := c) hz with ⟨h0, rfl⟩ | ⟨h0, h15, zv, h16, h17⟩
      · refine ⟨rfl, .cells #[] i.1, _, ?_, BlkR.new (cs := #[]) ?_, slice_new h11⟩
        · have h0 : cap * ti.size = 0 := by rw [hsz]; exact h0
          simp [Instr.makeSlice, run_und hu, asInt, asIntOf, w1, w2, typeInfo, hti, g1, g2, g3, g5, sizeOf, newRow]
          simp [h0]
          have : Array.range 0 = #[] := rfl
          rw [this, Array.map_empty]
        · have : repl cap [] = [] := List.eq_nil_of_length_eq_zero (by rw [repl_length]; simp)
          rw [this]; exact VRs.nil
      · have hzs : zv.cells.size = i.2.1 := by have := h16.length; simp at this; omega
        have hr := repl_ok h16 cap
        rw [hzs] at hr
        refine ⟨rfl, .cells ((Array.range (cap * i.2.1)).map fun x => zv.cells[x % i.2.1]!) i.1, _, ?_, BlkR.new hr, slice_new h11⟩
        simp [Instr.makeSlice, run_und hu, asInt, asIntOf, w1, w2, typeInfo, hti, g1, g2, g3, g5, sizeOf, newRow, h17, hsz, hzs]
        exact fun e => absurd e h0

/-! ### stores -/

theorem Wr.of {i : Nat} {b : Blk} (h : m.tr.get i = some b) (hw : b.wrB = true) : Wr c m (c.β i).1 := ⟨i, b, h, hw, rfl⟩

/-- a block that may be written, written -/
theorem Step.put (hm : MemR c m w) {i : Nat} {b b' : Blk} {w' : World} (hb : m.tr.get i = some b) (hw : b.wrB = true) (hb' : BlkR c w' (c.β i) b')
    (hsz : w'.heap.size = w.heap.size) (ho : ∀ k, k ≠ (c.β i).1 → w'.heap[k]? = w.heap[k]?) (h1 : w'.os = w.os) (h2 : w'.tape = w.tape) (h3 : w'.output = w.output) :
    Step c m w c ⟨m.tr.set i b', m.nb, m.tok, m.nt⟩ w' := by
  have hget : ∀ j d, (m.tr.set i b').get j = some d → j = i ∧ d = b' ∨ j ≠ i ∧ m.tr.get j = some d := by
    intro j d h
    rw [Tr.get_set] at h
    split at h
    · rename_i e; simp at h; exact .inl ⟨e, h.symm⟩
    · rename_i e; exact .inr ⟨e, h⟩
  have hany : ∀ j d, (m.tr.set i b').get j = some d → ∃ d', m.tr.get j = some d' := by
    intro j d h
    rcases hget j d h with ⟨rfl, _⟩ | ⟨_, h⟩
    · exact ⟨b, hb⟩
    · exact ⟨d, h⟩
  refine ⟨⟨hm.nb, hm.nt, ?_, ?_, hm.tok⟩, Cx.le.refl c, h1, h2, h3, Nat.le_of_eq hsz.symm, ?_, ?_⟩
  · intro j d h
    rcases hget j d h with ⟨rfl, rfl⟩ | ⟨hj, h⟩
    · exact ⟨(hm.blk j b hb).1, hb'⟩
    · obtain ⟨h4, h5⟩ := hm.blk j d h
      exact ⟨h4, h5.world' (fun hl => ho _ (hm.inj j i d b h hb hj (Blk.apt_right hw) hl (Blk.wr_live hw)))⟩
  · intro j k d d' h h' hjk hap l1 l2
    rcases hget j d h with ⟨rfl, _⟩ | ⟨_, g1⟩ <;> rcases hget k d' h' with ⟨rfl, _⟩ | ⟨_, g2⟩
    · exact absurd rfl hjk
    · exact hm.inj j k b d' hb g2 hjk (Blk.apt_left hw) (Blk.wr_live hw) l2
    · exact hm.inj j k d b g1 hb hjk (Blk.apt_right hw) l1 (Blk.wr_live hw)
    · exact hm.inj j k d d' g1 g2 hjk hap l1 l2
  · intro k _ hk
    exact ho k fun e => hk (e ▸ Wr.of hb hw)
  · rintro k ⟨j, d, h, h4, h5⟩
    left
    rcases hget j d h with ⟨rfl, rfl⟩ | ⟨hj, h⟩
    · exact h5 ▸ Wr.of hb hw
    · exact ⟨j, d, h, h4, h5⟩

theorem putBlk_gives {i : Nat} {b : Blk} (h : (putBlk i b).gives c.ρ m p () m' q) : m' = ⟨m.tr.set i b, m.nb, m.tok, m.nt⟩ ∧ q = p := by
  cases m
  simp [M.gives, putBlk, T.out] at h
  exact ⟨h.1.symm, h.2.symm⟩

theorem onCellsM_gives {α : Type} {b : Option Blk} {f : List V → Bool → Bool → Option (Nat × Nat) → T (Rs α)} {s : String} {r : Rs α} {ρ : Nat → Int}
    (h : (onCells b f (.fail s)).out ρ = some r) : ∃ l wr pl g, b = some (.cells l wr pl g) ∧ (f l wr pl g).out ρ = some r := onCells_gives h

theorem run_storeCells (g o : Nat) (t : TypeId) (fr : Nat × Nat) : ∀ (vs : List Value) (i : Nat) (cur : Array Value) (w : World), w.heap[g]? = some (.cells cur t fr) → (fr = (0, 0) ∨ cur.size ≤ fr.1) → o + i + vs.length ≤ cur.size → (∀ v ∈ vs, v.oneCell' = true) →
    (storeCells ⟨g, o, none⟩ vs i).run P w = .ok () (w.setRow g (cur.toList.take (o + i) ++ vs ++ cur.toList.drop (o + i + vs.length)).toArray)
  | [], i, cur, w, hg, _, _, _ => by
    simp only [storeCells, List.append_nil, List.length_nil, Nat.add_zero, List.take_append_drop, Array.toArray_toList]
    rw [setRow_self w g cur t fr hg]
    rfl
  | v :: rest, i, cur, w, hg, hf, hl, h1 => by
    have hi : o + i < cur.size := by simp at hl; omega
    have hadd : (⟨g, o, none⟩ : Addr).add i = ⟨g, o + i, none⟩ := by unfold Addr.add; split <;> simp_all
    have hcell : w.cell? ⟨g, o + i, none⟩ = some cur[o + i] := by simp [World.cell?, hg, hi]
    have hfro : w.frozen? ⟨g, o + i, none⟩ = false := by
      simp only [World.frozen?, hg]
      rcases hf with rfl | hf
      · simp
      · simp; omega
    have hst : (store ((⟨g, o, none⟩ : Addr).add i) v).run P w = .ok () (w.setRow g (cur.setIfInBounds (o + i) v)) := by
      rw [hadd, run_store P w _ v _ (h1 v (by simp)), hcell]
      simp [hfro, setCell_eq_setRow w g (o + i) cur t fr v hg]
    have ih := run_storeCells g o t fr rest (i + 1) (cur.setIfInBounds (o + i) v) (w.setRow g (cur.setIfInBounds (o + i) v)) (setRow_heap w g cur _ t _ hg) (by simpa using hf) (by simp at hl ⊢; omega) (fun x hx => h1 x (by simp [hx]))
    simp only [storeCells, Sem.run_bind, hst, Result.andThen_ok, ih, setRow_setRow]
    congr 3
    have e := list_seg_step cur.toList (o + i) v rest (by simp at hl ⊢; omega)
    simpa [Array.toList_setIfInBounds, Nat.add_assoc] using e

theorem oneCells : ∀ {l : List V} {xs : List Value}, VRs c l xs → allCells l = true → ∀ v ∈ xs, v.oneCell' = true
  | [], xs, h, _, v, hv => by rw [VRs.nil_iff] at h; subst h; simp at hv
  | u :: l, xs, h, ha, v, hv => by
    obtain ⟨x, ys, rfl, h1, h2⟩ := VRs.cons_iff.1 h
    obtain ⟨h3, h4⟩ := allCells_cons ha
    rcases List.mem_cons.1 hv with rfl | hv
    · obtain ⟨h5, h6⟩ := h1.oneCell h3
      cases v <;> first | rfl | exact absurd rfl (h5 _) | exact absurd rfl (h6 _)
    · exact oneCells h2 h4 v hv

theorem wrCells_ok (hm : MemR c m w) {i o : Nat} {vs : List V} {xs : List Value} (hv : VRs c vs xs) (h : (wrCells i o vs).gives c.ρ m p () m' q) :
    q = p ∧ ∃ w', Step c m w c m' w' ∧ (storeCells (c.ad i o) xs 0).run P w = .ok () w' := by
  obtain ⟨l, wr, pl, g, hb, h⟩ := onCellsM_gives (show T.out c.ρ (onCells (m.tr.get i) (fun l wr pl g => selB (andB wr (allCells vs)) (wrL i pl g (over o vs l) m p) (.fail "store")) (.fail "store no row that may be written")) = some ⟨(), m', q⟩ from h)
  cases hc : andB wr (allCells vs) with
  | false => rw [hc] at h; simp [selB, T.out] at h
  | true =>
    rw [hc] at h
    have h : (wrL i pl g (over o vs l)).gives c.ρ m p () m' q := h
    obtain ⟨rfl, h1⟩ := andB_iff.1 hc
    cases hov : over o vs l with
    | none => rw [hov] at h; exact (M.gives_fail h).elim
    | some l' =>
      rw [hov] at h
      obtain ⟨rfl, rfl⟩ := putBlk_gives (show (putBlk i (.cells l' true pl g)).gives c.ρ m p () m' q from h)
      obtain ⟨h2, h3⟩ := over_ok hov
      obtain ⟨hi, hblk⟩ := hm.blk i _ hb
      obtain ⟨cs, t, fr, h4, h5, h6, h7, h8⟩ := hblk
      have hlen := hv.length
      have hcs : (c.β i).2 + l.length ≤ cs.size ∨ l.length = 0 := by
        rcases Nat.eq_zero_or_pos l.length with e | e
        · exact .inr e
        · left
          obtain ⟨x, hx, _⟩ := h5 (l.length - 1) l[l.length - 1] (List.getElem?_eq_getElem (by omega))
          have := (Array.getElem?_eq_some_iff.1 hx).1
          omega
      rcases Nat.eq_zero_or_pos vs.length with hvs | hvs
      · have : vs = [] := List.eq_nil_of_length_eq_zero hvs
        subst this
        rw [VRs.nil_iff] at hv; subst hv
        have : l' = l := by rw [h3]; simp
        subst this
        have hself : BlkR c w (c.β i) (.cells l' true pl g) := ⟨cs, t, fr, h4, h5, h6, h7, h8⟩
        exact ⟨rfl, w, Step.put hm hb rfl hself rfl (fun _ _ => rfl) rfl rfl rfl, by simp [storeCells]⟩
      · have hfit : (c.β i).2 + o + 0 + xs.length ≤ cs.size := by
          rcases hcs with e | e <;> omega
        have hrun := run_storeCells (P := P) (c.β i).1 ((c.β i).2 + o) t fr xs 0 cs w h4 (h7 rfl) hfit (oneCells hv h1)
        refine ⟨rfl, _, Step.put hm hb rfl ?_ (by simp) (fun k hk => setRow_other w _ k _ hk) rfl rfl rfl, hrun⟩
        have hsz : ((cs.toList.take ((c.β i).2 + o + 0) ++ xs ++ cs.toList.drop ((c.β i).2 + o + 0 + xs.length)).toArray).size = cs.size := by
          simp; omega
        refine ⟨_, t, fr, setRow_heap w _ cs _ t fr h4, fun j v hj => ?_, h6, fun _ => by rw [hsz]; exact h7 rfl, ?_⟩
        · rw [h3] at hj
          simp only [List.getElem?_toArray]
          have hto : (List.take o l).length = o := by simp; omega
          have htc : (cs.toList.take ((c.β i).2 + o + 0)).length = (c.β i).2 + o := by simp; omega
          rcases Nat.lt_or_ge j o with hjo | hjo
          · rw [List.append_assoc, List.getElem?_append_left (by omega), List.getElem?_take_of_lt hjo] at hj
            obtain ⟨x, hx, hr⟩ := h5 j v hj
            refine ⟨x, ?_, hr⟩
            rw [List.append_assoc, List.getElem?_append_left (by omega), List.getElem?_take_of_lt (by omega)]
            simpa using hx
          · rcases Nat.lt_or_ge j (o + vs.length) with hjv | hjv
            · rw [List.append_assoc, List.getElem?_append_right (by omega), hto, List.getElem?_append_left (by omega)] at hj
              obtain ⟨x, hx, hr⟩ := hv.get hj
              refine ⟨x, ?_, hr⟩
              rw [List.append_assoc, List.getElem?_append_right (by omega), htc, List.getElem?_append_left (by omega)]
              have : (c.β i).2 + j - ((c.β i).2 + o) = j - o := by omega
              rw [this]; exact hx
            · rw [List.append_assoc, List.getElem?_append_right (by omega), hto, List.getElem?_append_right (by omega), List.getElem?_drop] at hj
              have : o + vs.length + (j - o - vs.length) = j := by omega
              rw [this] at hj
              obtain ⟨x, hx, hr⟩ := h5 j v hj
              refine ⟨x, ?_, hr⟩
              rw [List.append_assoc, List.getElem?_append_right (by omega), htc, List.getElem?_append_right (by omega), List.getElem?_drop]
              have : (c.β i).2 + o + 0 + xs.length + ((c.β i).2 + j - ((c.β i).2 + o) - xs.length) = (c.β i).2 + j := by omega
              rw [this]; simpa using hx
        · rw [hsz]; exact h8

theorem wrSome_ok (hm : MemR c m w) {i o : Nat} {vs : List V} {xs : List Value} (hv : VRs c vs xs) (h : (wrSome i o vs).gives c.ρ m p () m' q) :
    q = p ∧ ∃ w', Step c m w c m' w' ∧ (storeCells (c.ad i o) xs 0).run P w = .ok () w' := by
  cases vs with
  | nil =>
    obtain ⟨_, rfl, rfl⟩ := M.gives_pure (show (M.pure ()).gives c.ρ m p () m' q from h)
    rw [VRs.nil_iff] at hv; subst hv
    exact ⟨rfl, w, Step.refl hm, by simp [storeCells]⟩
  | cons v vs => exact wrCells_ok hm hv h

theorem storeM_ok (hm : MemR c m w) {t : TypeId} {a x : V} {A X : Value} (ha : VR c a A) (hx : VR c x X) (h : (storeM P t a x).gives c.ρ m p () m' q) :
    q = p ∧ ∃ w', Step c m w c m' w' ∧ (Instr.storeAt t A X).run P w = .ok () w' := by
  unfold storeM at h
  cases hs : szOf P t with
  | none => rw [hs] at h; exact (M.gives_fail h).elim
  | some n =>
    rw [hs] at h
    obtain ⟨i, o, rfl, h1⟩ := onPtrM_gives (s := "store no address") (show (onPtr a (fun i o => selB (Nat.beq (lenL x.cells) n) (wrSome i o x.cells) (M.fail "store size")) (M.fail "store no address")).gives c.ρ m p () m' q from h)
    obtain ⟨h2, h3⟩ := M.gives_if h1
    obtain ⟨_, rfl⟩ := VR.ptr.1 ha
    rw [beq_iff, lenL_eq] at h2
    by_cases hb : x = .bad
    · subst hb
      exfalso
      obtain ⟨l, wr, pl, g, _, h4⟩ := onCellsM_gives (show T.out c.ρ (onCells (m.tr.get i) (fun l wr pl g => selB (andB wr (allCells [V.bad])) (wrL i pl g (over o [V.bad] l) m p) (.fail "store")) (.fail "store no row that may be written")) = some ⟨(), m', q⟩ from h3)
      have : andB wr (allCells [V.bad]) = false := by cases wr <;> rfl
      rw [this] at h4
      simp [selB, T.out] at h4
    · have hc := hx.cells hb
      obtain ⟨rfl, w', h4, h5⟩ := wrSome_ok (P := P) hm hc h3
      have hsz : X.cells.size = n := by have := hc.length; simp at this; omega
      exact ⟨rfl, w', h4, by simp [Instr.storeAt, Instr.sureAddr, storeVar, run_size hs, hsz, h5]⟩
end ops

end Go.Sy
