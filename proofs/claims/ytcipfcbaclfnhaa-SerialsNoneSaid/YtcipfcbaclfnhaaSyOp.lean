/-
  What is proved here: an operation that reads, or makes a block, does what the model's does.
  Conditions: none.
-/
import Derived.Test.YtcipfcbaclfnhaaSyEnv
namespace Go.Sy

section ops
variable {P : Program} {c : Cx} {m m' : Mem} {w : World} {p q : Pc} {n : Nat} {env : Env} {a : Act}

theorem Kd.al_rd {f : R (Blk × Shp)} {g : R V} (h : Kd.al f = .rd g) : False := nomatch h
theorem Kd.ef_rd {f : M V} {g : R V} (h : Kd.ef f = .rd g) : False := nomatch h

/-- the run of an operation that gives a value -/
def GivesR (P : Program) (c : Cx) (w : World) (o : Oper) (a : Act) (v : V) : Prop := ∃ z, (execOp a.eval o).run P w = .ok (.value z) w ∧ VR c v z

theorem rd_ok (hm : MemR c m w) (hp : PcR c.ρ p) (he : EnvR c n env a) {o : Oper} {cf : FuncId → List V → M V} {f : R V} {v : V} (hk : evKind o.op P cf env = .rd f) (h : f.gives c.ρ m p v q) :
    PcR c.ρ q ∧ GivesR P c w o a v := by
  unfold GivesR execOp
  cases ho : o.op <;> rw [ho] at hk <;> first | exact (Kd.al_rd hk).elim | exact (Kd.ef_rd hk).elim | skip
  case move x =>
    have hk : Kd.rd (R.pure (opd x env)) = .rd f := hk
    simp only [Kd.rd.injEq] at hk; subst hk
    obtain ⟨rfl, rfl⟩ := R.gives_pure h
    exact ⟨hp, _, by simp, opd_ok he x⟩
  case assign x =>
    have hk : Kd.rd (R.pure (opd x env)) = .rd f := hk
    simp only [Kd.rd.injEq] at hk; subst hk
    obtain ⟨rfl, rfl⟩ := R.gives_pure h
    exact ⟨hp, _, by simp, opd_ok he x⟩
  case pick x y z =>
    have hk : Kd.rd (onBool (opd x env) (fun t => (decR t).bnd fun t => Bool.rec (R.pure (opd z env)) (R.pure (opd y env)) t) (R.fail "pick")) = .rd f := hk
    simp only [Kd.rd.injEq] at hk; subst hk
    obtain ⟨b, hb, h1⟩ := onBool_gives h
    have hx := opd_ok he x
    rw [hb, VR.bool] at hx
    obtain ⟨u, p1, h2, h3⟩ := R.gives_bnd h1
    obtain ⟨h4, h5⟩ := decR_gives hp h2
    rw [h4] at hx
    cases u
    · obtain ⟨rfl, rfl⟩ := R.gives_pure (show (R.pure (opd z env)).gives c.ρ m p1 v q from h3)
      exact ⟨h5, _, by simp [hx, asBool], opd_ok he z⟩
    · obtain ⟨rfl, rfl⟩ := R.gives_pure (show (R.pure (opd y env)).gives c.ρ m p1 v q from h3)
      exact ⟨h5, _, by simp [hx, asBool], opd_ok he y⟩
  case build t ps =>
    have hk : Kd.rd (buildR P t (partsV ps.toList env)) = .rd f := hk
    simp only [Kd.rd.injEq] at hk; subst hk
    obtain ⟨rfl, z, h1, h2⟩ := buildR_ok (w := w) (parts_arr he ps) h
    exact ⟨hp, z, by simp [h1], h2⟩
  case load t x =>
    have hk : Kd.rd (loadPtr P t (opd x env)) = .rd f := hk
    simp only [Kd.rd.injEq] at hk; subst hk
    obtain ⟨rfl, i, o', hx, z, h1, h2⟩ := loadPtr_ok hm hp (opd_ok he x) h
    exact ⟨hp, z, by simp [Instr.loadAt, hx, Instr.sureAddr, h1], h2⟩
  case nilCheck x =>
    have hk : Kd.rd (nilCheckR P (opd x env)) = .rd f := hk
    simp only [Kd.rd.injEq] at hk; subst hk
    have hx := opd_ok he x
    obtain ⟨rfl, rfl, hcs⟩ := nilCheckR_ok hx h
    rcases hcs with ⟨b, hb⟩ | ⟨g, b, d, hb⟩ | ⟨t, y, hb⟩ | ⟨nm, al, as, bs, hb, hn, hal⟩
    · exact ⟨hp, a.eval x, by simp [hb], hx⟩
    · exact ⟨hp, a.eval x, by simp [hb], hx⟩
    · exact ⟨hp, a.eval x, by simp [hb], hx⟩
    · obtain ⟨t, y, r, g1, g2, g3⟩ := nilMeth_ok hal hn
      have g1 : as[0]? = some (.iface t y) := by simpa using g1
      have hprog : (program).run P w = .ok P w := rfl
      obtain ⟨k, hk⟩ : ∃ k, P.types.size + Made.depth = k + 1 := ⟨P.types.size + 99, rfl⟩
      exact ⟨hp, a.eval x, by simp [hb, g1, Sem.run_bind, hprog, hk, nilAhead_ok (w := w) (k := k) (y := y) g2 g3], hx⟩
  case binOp op t x y u =>
    have hk : Kd.rd (binR op P t (orB (isConst x) (isConst y)) (opd x env) (opd y env)) = .rd f := hk
    simp only [Kd.rd.injEq] at hk; subst hk
    obtain ⟨h0, z, h1, h2⟩ := binR_ok (P := P) hm hp (opd_ok he x) (opd_ok he y) h
    refine ⟨h0, z, ?_, h2⟩
    show (do pure (Next.value (← (do eqGuard op t x y (a.eval x) (a.eval y); binOp op t (a.eval x) (a.eval y) : Sem Value))) : Sem Next).run P w = _
    rw [Sem.run_bind, h1, Result.andThen_ok, Sem.run_pure]
  case unOp op t x =>
    have hk : Kd.rd (unR op (opd x env)) = .rd f := hk
    simp only [Kd.rd.injEq] at hk; subst hk
    obtain ⟨rfl, z, h1, h2⟩ := unR_ok (P := P) (w := w) hp (opd_ok he x) h
    exact ⟨hp, z, by simp [h1], h2⟩
  case convert s d x =>
    have hk : (Bool.rec (Bool.rec (Kd.rd (convR P s d (opd x env))) (.ef (markM (opd x env))) (markT P s d)) (.ef (bytesM P d (opd x env))) (toSlice P s d) : Kd) = .rd f := hk
    cases hs : toSlice P s d <;> rw [hs] at hk
    · cases hmk : markT P s d <;> rw [hmk] at hk
      · simp only [Kd.rd.injEq] at hk; subst hk
        obtain ⟨rfl, z, h1, h2⟩ := convR_ok hm hp (opd_ok he x) h
        exact ⟨hp, z, by simp [h1], h2⟩
      · exact (Kd.ef_rd hk).elim
    · exact (Kd.ef_rd hk).elim
  case makeInterface t x =>
    have hk : Kd.rd (Option.rec (selB (hasT P t) (R.pure (.iface t (opd x env))) (R.fail "makeInterface")) (fun _ => R.fail "makeInterface") (wantsOf P t) : R V) = .rd f := hk
    simp only [Kd.rd.injEq] at hk; subst hk
    cases hw : wantsOf P t with
    | some ws => rw [hw] at h; exact (R.gives_fail (s := "makeInterface") h).elim
    | none =>
      rw [hw] at h
      obtain ⟨h1, h2⟩ := R.gives_if (show (selB (hasT P t) (R.pure (V.iface t (opd x env))) (R.fail "makeInterface")).gives c.ρ m p v q from h)
      obtain ⟨rfl, rfl⟩ := R.gives_pure h2
      obtain ⟨d, hu⟩ := hasT_iff h1
      have hni := wantsOf_none hw
      refine ⟨hp, .iface t (a.eval x), ?_, VR.iface.2 ⟨_, rfl, opd_ok he x⟩⟩
      cases d <;> first | exact absurd hu (hni _) | simp [Instr.makeInterface, run_und hu]
  case makeFunc fn first cap =>
    have hk : Kd.rd (R.pure (.func fn (opds first.toList env) (opds cap.toList env))) = .rd f := hk
    simp only [Kd.rd.injEq] at hk; subst hk
    obtain ⟨rfl, rfl⟩ := R.gives_pure h
    exact ⟨hp, .func fn (first.map a.eval) (cap.map a.eval), by simp [Instr.makeFunc], VR.func.2 ⟨_, _, rfl, opds_arr he first, opds_arr he cap⟩⟩
  case slice t x lo hi mx =>
    have hk : Kd.rd ((splitO (opd x env) (optV lo env)).bnd fun l => (splitO (opd x env) (optV hi env)).bnd fun h => sliceR P t l h (optV mx env) (opd x env)) = .rd f := hk
    simp only [Kd.rd.injEq] at hk; subst hk
    obtain ⟨l1, p1, g1, g2⟩ := R.gives_bnd h
    obtain ⟨hp1, hl1⟩ := splitO_ok hp (optV_ok he lo) g1
    obtain ⟨l2, p2, g3, g4⟩ := R.gives_bnd g2
    obtain ⟨hp2, hl2⟩ := splitO_ok hp1 (optV_ok he hi) g3
    obtain ⟨rfl, z, h1, h2⟩ := sliceR_ok (P := P) hm hp2 hl1 hl2 (optV_ok he mx) (opd_ok he x) g4
    exact ⟨hp2, z, by simp [h1], h2⟩
  case fieldAddr t x k =>
    have hk : Kd.rd (fieldAddrR P t k (opd x env)) = .rd f := hk
    simp only [Kd.rd.injEq] at hk; subst hk
    obtain ⟨rfl, z, h1, h2⟩ := fieldAddrR_ok (w := w) (opd_ok he x) h
    exact ⟨hp, z, by simp [h1], h2⟩
  case field t x k =>
    have hk : Kd.rd (fieldR P t k (opd x env)) = .rd f := hk
    simp only [Kd.rd.injEq] at hk; subst hk
    obtain ⟨rfl, z, h1, h2⟩ := fieldR_ok (w := w) (opd_ok he x) h
    exact ⟨hp, z, by simp [h1], h2⟩
  case indexAddr t x y =>
    have hk : Kd.rd ((splitIx (opd x env) (opd y env)).bnd fun i => indexAddrR P t (opd x env) i) = .rd f := hk
    simp only [Kd.rd.injEq] at hk; subst hk
    obtain ⟨i1, p1, g1, g2⟩ := R.gives_bnd h
    obtain ⟨hp1, hi1⟩ := splitIx_ok hp (opd_ok he y) g1
    obtain ⟨rfl, z, h1, h2⟩ := indexAddrR_ok (w := w) hp1 (opd_ok he x) hi1 g2
    exact ⟨hp1, z, by simp [h1], h2⟩
  case index t x y =>
    have hk : Kd.rd ((splitIx (opd x env) (opd y env)).bnd fun i => indexR P t (opd x env) i) = .rd f := hk
    simp only [Kd.rd.injEq] at hk; subst hk
    obtain ⟨i1, p1, g1, g2⟩ := R.gives_bnd h
    obtain ⟨hp1, hi1⟩ := splitIx_ok hp (opd_ok he y) g1
    obtain ⟨rfl, z, h1, h2⟩ := indexR_ok (w := w) hp1 (opd_ok he x) hi1 g2
    exact ⟨hp1, z, by simp [h1], h2⟩
  case lookup t x y ok =>
    have hk : Kd.rd (lookupR P t ok (opd x env) (opd y env)) = .rd f := hk
    simp only [Kd.rd.injEq] at hk; subst hk
    obtain ⟨h0, z, h1, h2⟩ := lookupR_ok hm hp (opd_ok he x) (opd_ok he y) h
    exact ⟨h0, z, by simp [h1], h2⟩
  case typeAssert x t u ok =>
    have hk : Kd.rd (assertR P u ok (opd x env)) = .rd f := hk
    simp only [Kd.rd.injEq] at hk; subst hk
    obtain ⟨rfl, z, h1, h2⟩ := assertR_ok (w := w) (xt := t) (opd_ok he x) h
    exact ⟨hp, z, by simp [h1], h2⟩
  case extract x i =>
    have hk : Kd.rd (onTup (opd x env) (fun l => R.opt "extract" (nth i l)) (R.fail "extract")) = .rd f := hk
    simp only [Kd.rd.injEq] at hk; subst hk
    obtain ⟨l, hl, h1⟩ := onTup_gives h
    obtain ⟨h2, rfl⟩ := R.gives_opt h1
    have hx := opd_ok he x
    rw [hl] at hx
    obtain ⟨xs, hxs, hvs⟩ := VR.tuple.1 hx
    rw [nth_eq] at h2
    obtain ⟨z, hz, hzr⟩ := hvs.get h2
    have hz : xs[i]? = some z := by simpa using hz
    exact ⟨hp, z, by simp [Instr.extract, hxs, hz], hzr⟩
  case call cl =>
    cases hc : cl.callee with
    | value g => rw [show evKind (Op.call cl) = hCall cl from rfl] at hk; unfold hCall at hk; rw [hc] at hk; exact (Kd.ef_rd hk).elim
    | invoke r nm => rw [show evKind (Op.call cl) = hCall cl from rfl] at hk; unfold hCall at hk; rw [hc] at hk; exact (Kd.ef_rd hk).elim
    | builtin b =>
      rw [show evKind (Op.call cl) = hCall cl from rfl] at hk; unfold hCall at hk; rw [hc] at hk
      cases b <;> first | exact (Kd.ef_rd hk).elim | skip
      case len =>
        have hk : Kd.rd (onT cl.argTypes.toList (fun t _ => on1 (opds cl.args.toList env) (lenR P t) (R.fail "len")) (R.fail "len")) = .rd f := hk
        simp only [Kd.rd.injEq] at hk; subst hk
        obtain ⟨t, us, ht, h1⟩ := onT_gives h
        obtain ⟨x, r, hx, h2⟩ := on1_gives h1
        obtain ⟨X, hX, hxr⟩ := head_arr (opds_arr he cl.args) hx
        obtain ⟨rfl, z, h3, h4⟩ := lenR_ok (P := P) (w := w) (ty := o.type) (ts := cl.argTypes) hm hxr (by rw [← Array.getElem?_toList, ht]; rfl) hX h2
        exact ⟨hp, z, by simp [resolve, hc, invoke, builtin, h3], h4⟩
      case cap =>
        have hk : Kd.rd (onT cl.argTypes.toList (fun t _ => on1 (opds cl.args.toList env) (capR P t) (R.fail "cap")) (R.fail "cap")) = .rd f := hk
        simp only [Kd.rd.injEq] at hk; subst hk
        obtain ⟨t, us, ht, h1⟩ := onT_gives h
        obtain ⟨x, r, hx, h2⟩ := on1_gives h1
        obtain ⟨X, hX, hxr⟩ := head_arr (opds_arr he cl.args) hx
        obtain ⟨rfl, z, h3, h4⟩ := capR_ok (P := P) (w := w) (ty := o.type) (ts := cl.argTypes) hxr (by rw [← Array.getElem?_toList, ht]; rfl) hX h2
        exact ⟨hp, z, by simp [resolve, hc, invoke, builtin, h3], h4⟩
      case max =>
        have hk : Kd.rd (minMax1 false (opds cl.args.toList env)) = .rd f := hk
        simp only [Kd.rd.injEq] at hk; subst hk
        obtain ⟨h0, z, h3, h4⟩ := minMax1_ok (P := P) (w := w) (ty := o.type) (ts := cl.argTypes) hp (opds_arr he cl.args) h
        have h3 : (Builtin.max_ cl.argTypes o.type (cl.args.map a.eval)).run P w = .ok z w := h3
        exact ⟨h0, z, by simp [resolve, hc, invoke, builtin, h3], h4⟩
      case min =>
        have hk : Kd.rd (minMax1 true (opds cl.args.toList env)) = .rd f := hk
        simp only [Kd.rd.injEq] at hk; subst hk
        obtain ⟨h0, z, h3, h4⟩ := minMax1_ok (P := P) (w := w) (ty := o.type) (ts := cl.argTypes) hp (opds_arr he cl.args) h
        have h3 : (Builtin.min_ cl.argTypes o.type (cl.args.map a.eval)).run P w = .ok z w := h3
        exact ⟨h0, z, by simp [resolve, hc, invoke, builtin, h3], h4⟩

theorem Kd.rd_al {f : R V} {g : R (Blk × Shp)} (h : Kd.rd f = .al g) : False := nomatch h
theorem Kd.ef_al {f : M V} {g : R (Blk × Shp)} (h : Kd.ef f = .al g) : False := nomatch h
theorem Kd.rd_ef {f : R V} {g : M V} (h : Kd.rd f = .ef g) : False := nomatch h
theorem Kd.al_ef {f : R (Blk × Shp)} {g : M V} (h : Kd.al f = .ef g) : False := nomatch h

/-- the run of an operation that makes a block -/
def MakesR (P : Program) (c : Cx) (w : World) (o : Oper) (a : Act) (bs : Blk × Shp) : Prop :=
  ∃ ob z, (execOp a.eval o).run P w = .ok (.value z) (w.alloc ob) ∧ BlkR (c.addB w) (w.alloc ob) (w.heap.size, 0) bs.1 ∧ VR (c.addB w) (bs.2.val c.nb) z

theorem AlOK.makes {o : Oper} {bs : Blk × Shp} {s : Sem Value} (h : AlOK P c w bs s) (he : execOp a.eval o = (do pure (.value (← s)))) : MakesR P c w o a bs := by
  obtain ⟨ob, z, h1, h2, h3⟩ := h
  refine ⟨ob, z, ?_, h2, h3⟩
  rw [he, Sem.run_bind, h1, Result.andThen_ok, Sem.run_pure]

theorem al_ok (hp : PcR c.ρ p) (he : EnvR c n env a) {o : Oper} {cf : FuncId → List V → M V} {f : R (Blk × Shp)} {bs : Blk × Shp} (hk : evKind o.op P cf env = .al f) (h : f.gives c.ρ m p bs q) :
    q = p ∧ MakesR P c w o a bs := by
  cases ho : o.op <;> rw [ho] at hk <;> first | exact (Kd.rd_al hk).elim | exact (Kd.ef_al hk).elim | skip
  case alloc t =>
    have hk : Kd.al (R.opt "alloc no zero" ((zeroOf P t).map fun z => (newCells z.cells, Shp.ptr))) = .al f := hk
    simp only [Kd.al.injEq] at hk; subst hk
    obtain ⟨rfl, h1⟩ := alloc_ok (P := P) (w := w) h
    exact ⟨rfl, h1.makes (by unfold execOp; rw [ho])⟩
  case box t x =>
    have hk : Kd.al (selB (allCells (opd x env).cells) (R.pure (newCells (opd x env).cells, Shp.ptr)) (R.fail "box")) = .al f := hk
    simp only [Kd.al.injEq] at hk; subst hk
    obtain ⟨rfl, h1⟩ := box_ok (P := P) (w := w) (t := t) (opd_ok he x) h
    exact ⟨rfl, h1.makes (by unfold execOp; rw [ho])⟩
  case buildSlice t k ps =>
    have hk : Kd.al (buildSliceR P t k (partsV ps.toList env)) = .al f := hk
    simp only [Kd.al.injEq] at hk; subst hk
    obtain ⟨rfl, h1⟩ := buildSlice_ok (P := P) (w := w) (parts_arr he ps) h
    exact ⟨rfl, h1.makes (by unfold execOp; rw [ho])⟩
  case convert s d x =>
    have hk : (Bool.rec (Bool.rec (Kd.rd (convR P s d (opd x env))) (.ef (markM (opd x env))) (markT P s d)) (.ef (bytesM P d (opd x env))) (toSlice P s d) : Kd) = .al f := hk
    cases hs : toSlice P s d <;> rw [hs] at hk
    · cases hmk : markT P s d <;> rw [hmk] at hk
      · exact (Kd.rd_al hk).elim
      · exact (Kd.ef_al hk).elim
    · exact (Kd.ef_al hk).elim
  case makeMap t r =>
    have hk : Kd.al (Option.rec (R.pure (.map [] 0 true, .map)) (fun x => onInt (opd x env) (fun _ _ => selB (isMapT P t) (R.pure (.map [] 0 true, .map)) (R.fail "makeMap")) (R.fail "makeMap")) r : R (Blk × Shp)) = .al f := hk
    simp only [Kd.al.injEq] at hk; subst hk
    obtain ⟨rfl, h1⟩ := makeMap_ok (P := P) (w := w) (t := t) (optV_ok he r) (bs := bs) (by cases r <;> exact h)
    exact ⟨rfl, h1.makes (by unfold execOp; rw [ho])⟩
  case makeSlice t l k =>
    have hk : Kd.al (makeSliceR P t (opd l env) (opd k env)) = .al f := hk
    simp only [Kd.al.injEq] at hk; subst hk
    obtain ⟨rfl, h1⟩ := makeSlice_ok (P := P) (w := w) hp (opd_ok he l) (opd_ok he k) h
    exact ⟨rfl, h1.makes (by unfold execOp; rw [ho])⟩
  case call cl =>
    cases hc : cl.callee with
    | value g => rw [show evKind (Op.call cl) = hCall cl from rfl] at hk; unfold hCall at hk; rw [hc] at hk; exact (Kd.ef_al hk).elim
    | invoke r nm => rw [show evKind (Op.call cl) = hCall cl from rfl] at hk; unfold hCall at hk; rw [hc] at hk; exact (Kd.ef_al hk).elim
    | builtin b =>
      rw [show evKind (Op.call cl) = hCall cl from rfl] at hk; unfold hCall at hk; rw [hc] at hk
      cases b <;> first | exact (Kd.ef_al hk).elim | exact (Kd.rd_al hk).elim
end ops

end Go.Sy
