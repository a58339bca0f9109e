/-
  What is proved here: each operation that writes, or calls, does what the model's does.
  Conditions: none.
-/
import Derived.Test.YtcipfcbaclfnhaaSyExt
import Derived.Test.YtcipfcbaclfnhaaSyOp2
namespace Go.Sy

section ops
variable {P : Program} {c : Cx} {m m' : Mem} {w : World} {p q : Pc} {n : Nat} {env : Env} {a : Act}

theorem catV_arr {l l' : List V} {xs ys : Array Value} (h : VRs c l xs.toList) (h' : VRs c l' ys.toList) : VRs c (catV l l') (xs ++ ys).toList := by
  rw [catV_eq, Array.toList_append]; exact h.append h'

theorem ef_ok (hm : MemR c m w) (hp : PcR c.ρ p) (he : EnvR c n env a) {cf : FuncId → List V → M V} (hcf : CallsOK P c.ρ cf) {o : Oper} {f : M V} {v : V} (hk : evKind o.op P cf env = .ef f) (h : f.gives c.ρ m p v m' q) :
    EffR P c m w m' v q o a := by
  have none : (M.fail "an operation" : M V).gives c.ρ m p v m' q → EffR P c m w m' v q o a := fun h => (M.gives_fail h).elim
  cases ho : o.op <;> rw [ho] at hk <;> first | exact (Kd.rd_ef hk).elim | exact (Kd.al_ef hk).elim | (have hk : Kd.ef (M.fail "an operation") = .ef f := hk; simp only [Kd.ef.injEq] at hk; subst hk; exact none h) | skip
  case insert t mp k x =>
    have hk : Kd.ef (skipV (mapUpdateM P t (opd mp env) (opd k env) (opd x env))) = .ef f := hk
    simp only [Kd.ef.injEq] at hk; subst hk
    obtain ⟨rfl, h1⟩ := skipV_gives h
    obtain ⟨h2, w', h3, h4⟩ := mapUpdate_ok hm hp (opd_ok he mp) (opd_ok he k) (opd_ok he x) h1
    exact EffR.of_unit h2 h3 h4 (by unfold execOp; rw [ho])
  case store t x y =>
    have hk : Kd.ef (skipV (storeM P t (opd x env) (opd y env))) = .ef f := hk
    simp only [Kd.ef.injEq] at hk; subst hk
    obtain ⟨rfl, h1⟩ := skipV_gives h
    obtain ⟨rfl, w', h3, h4⟩ := storeM_ok hm (opd_ok he x) (opd_ok he y) h1
    exact EffR.of_unit hp h3 h4 (by unfold execOp; rw [ho])
  case convert s d x =>
    have hk : (Bool.rec (Bool.rec (Kd.rd (convR P s d (opd x env))) (.ef (markM (opd x env))) (markT P s d)) (.ef (bytesM P d (opd x env))) (toSlice P s d) : Kd) = .ef f := hk
    cases hs : toSlice P s d <;> rw [hs] at hk
    · cases hmk : markT P s d <;> rw [hmk] at hk
      · exact (Kd.rd_ef hk).elim
      · simp only [Kd.ef.injEq] at hk; subst hk
        obtain ⟨rfl, h1⟩ := markM_ok hm (opd_ok he x) hmk h
        exact EffR.of_value hp h1 (by unfold execOp; rw [ho])
    · simp only [Kd.ef.injEq] at hk; subst hk
      have hs' : isStrT P s = true := by unfold toSlice at hs; simp at hs; exact hs.1
      obtain ⟨rfl, h1⟩ := bytesM_ok hm (opd_ok he x) hs' h
      exact EffR.of_value hp h1 (by unfold execOp; rw [ho])
  case mapUpdate t mp k x =>
    have hk : Kd.ef (skipV (mapUpdateM P t (opd mp env) (opd k env) (opd x env))) = .ef f := hk
    simp only [Kd.ef.injEq] at hk; subst hk
    obtain ⟨rfl, h1⟩ := skipV_gives h
    obtain ⟨h2, w', h3, h4⟩ := mapUpdate_ok hm hp (opd_ok he mp) (opd_ok he k) (opd_ok he x) h1
    exact EffR.of_unit h2 h3 h4 (by unfold execOp; rw [ho])
  case mapEntry t mp k =>
    have hk : Kd.ef (mapEntryM P t (opd mp env) (opd k env)) = .ef f := hk
    simp only [Kd.ef.injEq] at hk; subst hk
    obtain ⟨h1, h2⟩ := mapEntry_ok hm hp (opd_ok he mp) (opd_ok he k) h
    exact EffR.of_value h1 h2 (by unfold execOp; rw [ho])
  case entryStore t mp s x =>
    have hk : Kd.ef (skipV (entryStoreM (opd mp env) (opd s env) (opd x env))) = .ef f := hk
    simp only [Kd.ef.injEq] at hk; subst hk
    obtain ⟨rfl, h1⟩ := skipV_gives h
    obtain ⟨rfl, w', h3, h4⟩ := entryStore_ok (t := t) (P := P) hm hp (opd_ok he mp) (opd_ok he s) (opd_ok he x) h1
    exact EffR.of_unit hp h3 h4 (by unfold execOp; rw [ho])
  case call cl =>
    rw [show evKind (Op.call cl) = hCall cl from rfl] at hk
    unfold hCall at hk
    have hargs := opds_arr he cl.args
    cases hc : cl.callee with
    | value g =>
      rw [hc] at hk
      have hk : Kd.ef (callV P cf (opd g env) (opds cl.args.toList env)) = .ef f := hk
      simp only [Kd.ef.injEq] at hk; subst hk
      have hg := opd_ok he g
      cases hgv : opd g env <;> rw [hgv] at h hg <;> try exact (M.gives_fail (s := "call of what") h).elim
      case func fn fa fb =>
        obtain ⟨as, bs, hx, h1, h2⟩ := VR.func.1 hg
        cases fn <;> try exact (M.gives_fail (s := "call of a methods value") h).elim
        case func fid =>
          have h : (cfx P cf fid (catV fa (catV (opds cl.args.toList env) fb))).gives c.ρ m p v m' q := h
          have hall := catV_arr h1 (catV_arr hargs h2)
          cases hx0 : extNo P fid with
          | zero =>
            have h : (Nat.rec (cf fid (catV fa (catV (opds cl.args.toList env) fb))) (fun n _ => (extR n (catV fa (catV (opds cl.args.toList env) fb))).thn M.pure) (extNo P fid) : M V).gives c.ρ m p v m' q := h
            rw [hx0] at h
            have h4 := hcf fid _ c m m' w p q v (as ++ (cl.args.map a.eval ++ bs)) rfl hm hp he.glob hall h
            refine EffR.of_call h4 ?_
            have hrun := run_callFunc (w := w) h4.1 (as ++ (cl.args.map a.eval ++ bs))
            unfold execOp
            rw [ho]
            simp [resolve, hc, hx, Deferred.ofValue, invoke, hrun]
          | succ n =>
            have h : (Nat.rec (cf fid (catV fa (catV (opds cl.args.toList env) fb))) (fun n _ => (extR n (catV fa (catV (opds cl.args.toList env) fb))).thn M.pure) (extNo P fid) : M V).gives c.ρ m p v m' q := h
            rw [hx0] at h
            obtain ⟨v1, p1, h5, h6⟩ := R.gives_thn (show ((extR n (catV fa (catV (opds cl.args.toList env) fb))).thn M.pure).gives c.ρ m p v m' q from h)
            obtain ⟨rfl, rfl, rfl⟩ := M.gives_pure h6
            obtain ⟨hq, z, hrun, hz⟩ := ext_ok (w := w) hp hx0 hall h5
            intro K Q hK
            unfold Oper.wp
            have hex : (execOp a.eval o).run P w = .ok (.value z) w := by
              unfold execOp
              rw [ho]
              simp [resolve, hc, hx, Deferred.ofValue, invoke, hrun]
            rw [hex]
            exact hK c w z hq (Step.refl hm) hz
        case method nm =>
          have h : (onHead (catV fa (opds cl.args.toList env)) (fun r l => invokeM P cf nm r l) (M.fail "call")).gives c.ρ m p v m' q := h
          have hall := catV_arr h1 hargs
          cases hl : catV fa (opds cl.args.toList env) with
          | nil => rw [hl] at h; exact (M.gives_fail (s := "call") h).elim
          | cons r rest =>
            rw [hl] at h hall
            obtain ⟨R', rest', hR, hr, hrest⟩ := VRs.cons_iff.1 hall
            obtain ⟨g', args', g2, g3⟩ := invoke_ok (w := w) (args := rest'.toArray) hm hp he.glob hcf hr (by simpa using hrest) (show (invokeM P cf nm r rest).gives c.ρ m p v m' q from h)
            refine EffR.of_call g2 ?_
            have harr : as ++ cl.args.map a.eval = #[R'] ++ rest'.toArray := by
              apply Array.ext'
              rw [hR]
              simp
            have hx0 : (as ++ cl.args.map a.eval)[0]? = some R' := by rw [harr, ← Array.getElem?_toList]; simp
            have hx1 : (as ++ cl.args.map a.eval).extract 1 (as ++ cl.args.map a.eval).size = rest'.toArray := by
              rw [harr]
              apply Array.ext'
              simp
            unfold execOp
            rw [ho]
            simp only [resolve, hc, hx, Deferred.ofValue, Sem.run_bind, Sem.run_pure, Result.andThen_ok, invoke, hx0, hx1, g3]
    | invoke r nm =>
      rw [hc] at hk
      have hk : Kd.ef (invokeM P cf nm (opd r env) (opds cl.args.toList env)) = .ef f := hk
      simp only [Kd.ef.injEq] at hk; subst hk
      obtain ⟨g, args', h2, h3⟩ := invoke_ok hm hp he.glob hcf (opd_ok he r) hargs h
      refine EffR.of_call h2 ?_
      unfold execOp
      rw [ho]
      have hx0 : (#[a.eval r] ++ Array.map a.eval cl.args)[0]? = some (a.eval r) := by rw [← Array.getElem?_toList]; simp
      have hx1 : (Array.map a.eval cl.args).extract 0 cl.args.size = Array.map a.eval cl.args := by
        have := Array.extract_size (xs := Array.map a.eval cl.args)
        rwa [Array.size_map] at this
      simp [resolve, hc, invoke, hx0, hx1, h3]
    | builtin b =>
      rw [hc] at hk
      cases b <;> first | exact (Kd.rd_ef hk).elim | (have hk : Kd.ef (M.fail "an operation") = .ef f := hk; simp only [Kd.ef.injEq] at hk; subst hk; exact none h) | skip
      case append =>
        have hk : Kd.ef (onT cl.argTypes.toList (fun t us => on2 (opds cl.args.toList env) (appendT P t us) (M.fail "append")) (M.fail "append")) = .ef f := hk
        simp only [Kd.ef.injEq] at hk; subst hk
        obtain ⟨t, us, ht, h1⟩ := onTM_gives h
        obtain ⟨x, y, r, hx, h2⟩ := on2_gives h1
        obtain ⟨X, Y, hX, hY, hxr, hyr⟩ := head2_arr hargs hx
        obtain ⟨rfl, h3⟩ := appendT_ok (ty := o.type) hm ht hX hY hxr hyr h2
        exact EffR.of_value hp h3 (by unfold execOp; rw [ho]; simp [resolve, hc, invoke, builtin])
      case copy =>
        have hk : Kd.ef (onT cl.argTypes.toList (fun t _ => on2 (opds cl.args.toList env) (copyM P t) (M.fail "copy")) (M.fail "copy")) = .ef f := hk
        simp only [Kd.ef.injEq] at hk; subst hk
        obtain ⟨t, us, ht, h1⟩ := onTM_gives h
        obtain ⟨x, y, r, hx, h2⟩ := on2_gives h1
        obtain ⟨X, Y, hX, hY, hxr, hyr⟩ := head2_arr hargs hx
        obtain ⟨rfl, h3⟩ := copyM_ok (ty := o.type) (ts := cl.argTypes) hm (by rw [← Array.getElem?_toList, ht]; rfl) hX hY hxr hyr h2
        exact EffR.of_value hp h3 (by unfold execOp; rw [ho]; simp [resolve, hc, invoke, builtin])
      case delete =>
        have hk : Kd.ef (onT cl.argTypes.toList (fun t _ => on2 (opds cl.args.toList env) (deleteM P t) (M.fail "delete")) (M.fail "delete")) = .ef f := hk
        simp only [Kd.ef.injEq] at hk; subst hk
        obtain ⟨t, us, ht, h1⟩ := onTM_gives h
        obtain ⟨x, y, r, hx, h2⟩ := on2_gives h1
        obtain ⟨X, Y, hX, hY, hxr, hyr⟩ := head2_arr hargs hx
        obtain ⟨h0, h3⟩ := delete_ok (ty := o.type) (ts := cl.argTypes) hm hp (by rw [← Array.getElem?_toList, ht]; rfl) hX hY hxr hyr h2
        exact EffR.of_value h0 h3 (by unfold execOp; rw [ho]; simp [resolve, hc, invoke, builtin])
end ops

end Go.Sy
