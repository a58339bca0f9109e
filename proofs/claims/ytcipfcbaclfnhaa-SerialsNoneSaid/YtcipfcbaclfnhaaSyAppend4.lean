/-
  What is proved here: the evaluator's append is that of the model (the whole).
  Conditions: none.
-/
import Derived.Test.YtcipfcbaclfnhaaSyAppend3
namespace Go.Sy

section ops
variable {P : Program} {c : Cx} {m m' : Mem} {w : World} {p q : Pc}

theorem EfOK.after {m1 : Mem} {v : V} {s : Sem Value} (h : Step c m w c m1 w) (k : EfOK P c m1 w m' v s) : EfOK P c m w m' v s := by
  obtain ⟨c', w', z, h1, h2, h3⟩ := k
  exact ⟨c', w', z, h.trans h1, h2, h3⟩

theorem appendT_ok (hm : MemR c m w) {t ty : TypeId} {ts : Array TypeId} {us : List TypeId} {xs : Array Value} {s x v : V} {S X : Value} (hts : ts.toList = t :: us) (h0 : xs[0]? = some S) (h1 : xs[1]? = some X) (hs : VR c s S) (hx : VR c x X)
    (h : (appendT P t us s x).gives c.ρ m p v m' q) : q = p ∧ EfOK P c m w m' v (Builtin.append_ ts ty xs) := by
  unfold appendT at h
  cases ha : elemSz P t with
  | none => rw [ha] at h; exact (M.gives_fail h).elim
  | some a =>
    cases hn : lenV x with
    | none => rw [ha, hn] at h; exact (M.gives_fail h).elim
    | some n =>
      rw [ha, hn] at h
      obtain ⟨hpl, hk⟩ := M.gives_if (show (selB (plainSrc P us) (appV a.1 a.2 n s x) (M.fail "append of a made slice")).gives c.ρ m p v m' q from h)
      clear h
      obtain ⟨e, i, z, ht, hi, hisz, hiby, hpos, hbpos, hz, hzs⟩ := elemSz_some ha
      have hlen := lenV_ok (P := P) hx hn w
      cases s <;> try exact (M.gives_fail (s := "append") hk).elim
      case nilSlice =>
        rw [VR.nilSlice] at hs; subst hs
        obtain ⟨h2, h3⟩ := M.gives_if (show (selB (Nat.ble (Nat.mul n a.2) bigN) (appNil a.1 n x) (M.fail "append great")).gives c.ρ m p v m' q from hk)
        rw [ble_iff] at h2
        have h2 : n * a.2 ≤ 1099511627776 := h2
        cases n with
        | zero =>
          obtain ⟨rfl, rfl, rfl⟩ := M.gives_pure (show (M.pure V.nilSlice).gives c.ρ m p v m' q from h3)
          have hf := firstCells_zero (P := P) (w := w) (sz := i.size) hx hn
          have hr := run_append_in (ty := ty) (sLen := 0) (sCap := 0) hts hpl h0 h1 ht hi hlen hf (Nat.le_refl 0) (show w = w from rfl)
          exact ⟨rfl, c, w, _, Step.refl hm, hr, VR.nilSlice.2 rfl⟩
        | succ k =>
          obtain ⟨l, p1, h4, h5⟩ := R.gives_thn (show ((firstR a.1 (Nat.succ k) x).thn fun l => growM a.1 (Nat.succ k) l).gives c.ρ m p v m' q from h3)
          obtain ⟨rfl, news, h6, _, h8⟩ := firstR_ok (P := P) hm hx h4
          rw [← hisz] at h8
          have h5 : (growM a.1 (0 + (k + 1)) ([] ++ l)).gives c.ρ m p1 v m' q := by rw [Nat.zero_add]; exact h5
          exact appNew_ok hm h5 (olds := #[]) VRs.nil h6 hts hpl h0 h1 ht hi hz hzs hisz hlen (run_firstCells_none _ _ _ _ _) h8 (by omega) hbpos (by rw [hiby, Nat.zero_add]; exact h2)
      case eslice b z =>
        obtain ⟨hb, o, cap, rfl, hzc⟩ := VR.eslice.1 hs
        cases n with
        | zero =>
          obtain ⟨rfl, rfl, rfl⟩ := M.gives_pure (show (M.pure (V.eslice b z)).gives c.ρ m p v m' q from hk)
          have hf := firstCells_zero (P := P) (w := w) (sz := i.size) hx hn
          have hr := run_append_in (ty := ty) (base := some (c.ad b o)) (sLen := 0) (sCap := cap) (w' := w) hts hpl h0 h1 ht hi hlen hf (Nat.zero_le cap) (show (storeCells ((c.ad b o).add (0 * i.size)) (#[] : Array Value).toList).run P w = .ok () w by simp [storeCells])
          exact ⟨rfl, c, w, _, Step.refl hm, hr, hs⟩
        | succ k =>
          obtain ⟨h2, h3⟩ := M.gives_if (show (selB (andB z (Nat.ble (Nat.mul (Nat.succ k) a.2) bigN)) ((firstR a.1 (Nat.succ k) x).thn fun l => growM a.1 (Nat.succ k) l) (M.fail "append")).gives c.ρ m p v m' q from hk)
          obtain ⟨h20, h21⟩ := andB_iff.1 h2
          have hcap0 := hzc h20
          subst hcap0
          rw [ble_iff] at h21
          have h2 : (k + 1) * a.2 ≤ 1099511627776 := h21
          obtain ⟨l, p1, h4, h5⟩ := R.gives_thn h3
          obtain ⟨rfl, news, h6, _, h8⟩ := firstR_ok (P := P) hm hx h4
          rw [← hisz] at h8
          have h5 : (growM a.1 (0 + (k + 1)) ([] ++ l)).gives c.ρ m p1 v m' q := by rw [Nat.zero_add]; exact h5
          exact appNew_ok hm h5 (olds := #[]) VRs.nil h6 hts hpl h0 h1 ht hi hz hzs hisz hlen (run_first0 _ _ _ _ _) h8 (by omega) hbpos (by rw [hiby, Nat.zero_add]; exact h2)
      case slice b o len cp =>
        obtain ⟨hb, cap, hcap, hlc, rfl⟩ := VR.slice.1 hs
        obtain ⟨h2, h3⟩ := M.gives_if (show (selB (Nat.ble (Nat.mul (Nat.add len n) a.2) bigN) _ (M.fail "append great")).gives c.ρ m p v m' q from hk)
        rw [ble_iff] at h2
        have h2 : (len + n) * a.2 ≤ 1099511627776 := h2
        cases cp with
        | n k =>
          have hcap : cap = k := hcap
          subst hcap
          have h3 : (selB (Nat.ble (Nat.add len n) cap) (appIn a.1 n b o len cap x) (appGrow a.1 n b o len x)).gives c.ρ m p v m' q := h3
          cases hr : Nat.ble (Nat.add len n) cap with
          | true =>
            rw [hr] at h3
            rw [ble_iff] at hr
            have hr : len + n ≤ cap := hr
            obtain ⟨l, p1, h4, h5⟩ := R.gives_thn (show ((firstR a.1 n x).thn fun l => (wrSome b (Nat.add o (Nat.mul len a.1)) l).bnd fun _ => M.pure (V.slice b o (Nat.add len n) (.n cap))).gives c.ρ m p v m' q from h3)
            obtain ⟨rfl, news, h6, h7, _⟩ := firstR_ok (P := P) hm hx h4
            obtain ⟨_, m1, p2, h8, h9⟩ := M.gives_bnd h5
            obtain ⟨rfl, rfl, rfl⟩ := M.gives_pure h9
            obtain ⟨rfl, w', h10, h11⟩ := wrSome_ok (P := P) hm h6 h8
            rw [← hisz] at h7 h11
            have hrun := run_append_in (ty := ty) (base := some (c.ad b o)) hts hpl h0 h1 ht hi hlen h7 hr (show (storeCells ((c.ad b o).add (len * i.size)) news.toList).run P w = .ok () w' by rw [Cx.ad_add]; exact h11)
            exact ⟨rfl, c, w', _, h10, hrun, VR.slice.2 ⟨hb, cap, rfl, hr, rfl⟩⟩
          | false =>
            rw [hr] at h3
            have hr : ¬ (len + n ≤ cap) := fun e => by rw [show Nat.ble (Nat.add len n) cap = true from (ble_iff _ _).2 e] at hr; exact absurd hr (by simp)
            obtain ⟨lo, p1, h4, h5⟩ := R.gives_thn (show ((rdCells b o (Nat.mul len a.1)).thn fun old => (firstR a.1 n x).thn fun l => growM a.1 (Nat.add len n) (catV old l)).gives c.ρ m p v m' q from h3)
            obtain ⟨rfl, _⟩ := rdCells_ok (P := P) hm h4
            obtain ⟨olds, ho1, ho2⟩ := cell_ad (P := P) hm h4 w.drew (fun _ _ => rfl)
            obtain ⟨l, p2, h6, h7⟩ := R.gives_thn h5
            obtain ⟨rfl, news, h8, _, h10⟩ := firstR_ok (P := P) hm hx h6
            rw [← hisz] at h10
            have ho2 : (Builtin.firstCells i.size len (.slice (some (c.ad b o)) len cap)).run P w.drew = .ok olds w.drew := by rw [hisz]; exact ho2
            rw [catV_eq] at h7
            exact appNew_ok hm (show (growM a.1 (len + n) (lo ++ l)).gives c.ρ m p2 v m' q from h7) ho1 h8 hts hpl h0 h1 ht hi hz hzs hisz hlen ho2 h10 (by omega) hbpos (by rw [hiby]; exact h2)
        | t tk k =>
          have h3 : (appTok a.1 n b o len tk k x).gives c.ρ m p v m' q := h3
          cases n with
          | zero =>
            obtain ⟨l, p1, h4, h5⟩ := R.gives_thn (show ((firstR a.1 0 x).thn fun _ => M.pure (V.slice b o len (.t tk k))).gives c.ρ m p v m' q from h3)
            obtain ⟨rfl, rfl, rfl⟩ := M.gives_pure h5
            have hl := firstR_zero hm h4
            subst hl
            obtain ⟨rfl, news, h6, h7, _⟩ := firstR_ok (P := P) hm hx h4
            rw [VRs.nil_iff] at h6
            rw [← hisz] at h7
            have hrun := run_append_in (ty := ty) (base := some (c.ad b o)) (w' := w) hts hpl h0 h1 ht hi hlen h7 (show len + 0 ≤ cap from hlc) (show (storeCells ((c.ad b o).add (len * i.size)) news.toList).run P w = .ok () w by rw [h6]; simp [storeCells])
            exact ⟨rfl, c, w, _, Step.refl hm, hrun, hs⟩
          | succ n' =>
            obtain ⟨lo, p1, h4, h5⟩ := R.gives_thn (show ((rdCells b o (Nat.mul len a.1)).thn fun old => (firstR a.1 (Nat.succ n') x).thn fun l => (isOn b tk a.1).bnd fun _ =>
              selB (andB (Nat.beq o (Nat.mul k a.1)) (allCells l)) ((killBlk b).bnd fun _ => growM a.1 (Nat.add len (Nat.succ n')) (catV old l)) (M.fail "append a slice at another place")).gives c.ρ m p v m' q from h3)
            obtain ⟨rfl, hloz, oldv, ho3, ho4, ho5⟩ := rdCells_ok (P := P) hm h4
            obtain ⟨olds, ho1, ho2⟩ := cell_ad (P := P) hm h4 w.drew (fun _ _ => rfl)
            obtain ⟨l, p2, h6, h7⟩ := R.gives_thn h5
            obtain ⟨rfl, news, h8, h9, h10⟩ := firstR_ok (P := P) hm hx h6
            obtain ⟨_, m1, p3, h11, h12⟩ := M.gives_bnd h7
            obtain ⟨rfl, rfl, lk, hbk⟩ := isOn_gives h11
            obtain ⟨h13, h14⟩ := M.gives_if h12
            obtain ⟨h15, h16⟩ := andB_iff.1 h13
            rw [beq_iff] at h15
            obtain ⟨_, m2, p4, h17, h18⟩ := M.gives_bnd h14
            obtain ⟨rfl, rfl⟩ := killBlk_gives h17
            rw [catV_eq] at h18
            have h18 : (growM a.1 (len + (n' + 1)) (lo ++ l)).gives c.ρ ⟨m1.tr.del b, m1.nb, m1.tok, m1.nt⟩ p4 v m' q := h18
            rw [← hisz] at h9 h10
            by_cases hr : len + (n' + 1) ≤ cap
            · obtain ⟨rfl, c', w', h19, h20, h21⟩ := appHere_ok (P := P) hm hbk h18 ho4 ho5 hloz h8 h16 h15 hcap.2 hr
              rw [← hisz] at h20
              have hrun := run_append_in (ty := ty) (base := some (c.ad b o)) (w' := w') hts hpl h0 h1 ht hi hlen h9 hr h20
              exact ⟨rfl, c', w', _, h19, hrun, h21⟩
            · have s1 := Step.kill hm b
              have ho2 : (Builtin.firstCells i.size len (.slice (some (c.ad b o)) len cap)).run P w.drew = .ok olds w.drew := by rw [hisz]; exact ho2
              obtain ⟨rfl, h19⟩ := appNew_ok (ty := ty) s1.rel h18 ho1 h8 hts hpl h0 h1 ht hi hz hzs hisz hlen ho2 h10 (by omega) hbpos (by rw [hiby]; exact h2)
              exact ⟨rfl, h19.after s1⟩
end ops

end Go.Sy
