/-
  What is proved here: the evaluator's appends are those of the model.
  Conditions: none.
-/
import Derived.Test.YtcipfcbaclfnhaaSyAppend
namespace Go.Sy

def Cx.addL (c : Cx) (loc : Nat × Nat) : Cx := { c with β := fun i => if i = c.nb then loc else c.β i, nb := c.nb + 1 }
theorem Cx.le_addL (c : Cx) (loc : Nat × Nat) : c.le (c.addL loc) := ⟨rfl, Nat.le_succ _, Nat.le_refl _, fun i hi => if_neg (by omega), fun _ _ => rfl⟩

section ops
variable {P : Program} {c : Cx} {m m' : Mem} {w : World} {p q : Pc}

theorem Cx.addL_new {loc : Nat × Nat} : (c.addL loc).β c.nb = loc := if_pos rfl
theorem Cx.addL_old {loc : Nat × Nat} {i : Nat} (h : i < c.nb) : (c.addL loc).β i = c.β i := if_neg (by omega)

/-- a block that is known no more -/
theorem Step.kill (hm : MemR c m w) (i : Nat) : Step c m w c ⟨m.tr.del i, m.nb, m.tok, m.nt⟩ w := by
  have hget : ∀ j d, (m.tr.del i).get j = some d → m.tr.get j = some d := by
    intro j d h
    rw [Tr.get_del] at h
    split at h
    · simp at h
    · exact h
  refine ⟨⟨hm.nb, hm.nt, fun j d h => hm.blk j d (hget j d h), fun j k d d' h h' hjk hap l1 l2 => hm.inj j k d d' (hget j d h) (hget k d' h') hjk hap l1 l2, hm.tok⟩, Cx.le.refl c, rfl, rfl, rfl, Nat.le_refl _, fun _ _ _ => rfl, ?_⟩
  rintro k ⟨j, d, h, h4, h5⟩
  exact .inl ⟨j, d, hget j d h, h4, h5⟩

/-- a block that is written, and known by another name behind that -/
theorem Step.move (hm : MemR c m w) {i : Nat} {b b' : Blk} {w' : World} {loc : Nat × Nat} (hb : m.tr.get i = some b) (hw : b.wrB = true) (hl : loc.1 = (c.β i).1) (hb' : BlkR (c.addL loc) w' loc b')
    (hsz : w'.heap.size = w.heap.size) (ho : ∀ k, k ≠ (c.β i).1 → w'.heap[k]? = w.heap[k]?) (h1 : w'.os = w.os) (h2 : w'.tape = w.tape) (h3 : w'.output = w.output) :
    Step c m w (c.addL loc) ⟨(m.tr.del i).set m.nb b', Nat.succ m.nb, m.tok, m.nt⟩ w' := by
  have hget : ∀ j d, ((m.tr.del i).set m.nb b').get j = some d → j = c.nb ∧ d = b' ∨ j ≠ c.nb ∧ j ≠ i ∧ m.tr.get j = some d := by
    intro j d h
    rw [Tr.get_set, ← hm.nb] at h
    split at h
    · rename_i e; simp at h; exact .inl ⟨e, h.symm⟩
    · rename_i e
      rw [Tr.get_del] at h
      split at h
      · simp at h
      · rename_i e'; exact .inr ⟨e, e', h⟩
  have hlt : ∀ j d, m.tr.get j = some d → j < c.nb := fun j d h => (hm.blk j d h).1
  refine ⟨⟨?_, hm.nt, ?_, ?_, hm.tok⟩, c.le_addL loc, h1, h2, h3, Nat.le_of_eq hsz.symm, ?_, ?_⟩
  · show c.nb + 1 = m.nb + 1; rw [hm.nb]
  · intro j d h
    rcases hget j d h with ⟨rfl, rfl⟩ | ⟨_, hj, g⟩
    · exact ⟨Nat.lt_succ_self _, by rw [Cx.addL_new]; exact hb'⟩
    · obtain ⟨h4, h5⟩ := hm.blk j d g
      refine ⟨Nat.lt_succ_of_lt h4, ?_⟩
      rw [Cx.addL_old h4]
      exact (h5.world' (fun hl => ho _ (hm.inj j i d b g hb hj (Blk.apt_right hw) hl (Blk.wr_live hw)))).mono (c.le_addL loc)
  · intro j k d d' h h' hjk hap l1 l2
    rw [Blk.live_le (c.le_addL loc)] at l1 l2
    rcases hget j d h with ⟨rfl, e1⟩ | ⟨_, hj, g1⟩ <;> rcases hget k d' h' with ⟨rfl, e2⟩ | ⟨_, hk, g2⟩
    · exact absurd rfl hjk
    · rw [Cx.addL_new, Cx.addL_old (hlt k d' g2), hl]
      exact fun e => hm.inj k i d' b g2 hb hk (Blk.apt_right hw) l2 (Blk.wr_live hw) e.symm
    · rw [Cx.addL_new, Cx.addL_old (hlt j d g1), hl]
      exact hm.inj j i d b g1 hb hj (Blk.apt_right hw) l1 (Blk.wr_live hw)
    · rw [Cx.addL_old (hlt j d g1), Cx.addL_old (hlt k d' g2)]
      exact hm.inj j k d d' g1 g2 hjk hap l1 l2
  · intro k _ hk
    exact ho k fun e => hk (e ▸ Wr.of hb hw)
  · rintro k ⟨j, d, h, h4, h5⟩
    left
    rcases hget j d h with ⟨rfl, rfl⟩ | ⟨_, hj, g⟩
    · rw [Cx.addL_new, hl] at h5; exact h5 ▸ Wr.of hb hw
    · rw [Cx.addL_old (hlt j d g)] at h5; exact ⟨j, d, g, h4, h5⟩

theorem growM_gives {sz need : Nat} {l : List V} {v : V} (h : (growM sz need l).gives c.ρ m p v m' q) :
    l.length = need * sz ∧ q = p ∧ v = .slice m.nb 0 need (.t m.nt 0) ∧ m' = ⟨m.tr.set m.nb (.cells l true true (some (m.nt, sz))), Nat.succ m.nb, m.tok.set m.nt need, Nat.succ m.nt⟩ := by
  obtain ⟨h1, h2⟩ := M.gives_if (show (selB (Nat.beq (lenL l) (Nat.mul need sz)) ((newTok need).bnd fun tk => (newBlk (.cells l true true (some (tk, sz)))).bnd fun i => M.pure (V.slice i 0 need (.t tk 0))) (M.fail "append size")).gives c.ρ m p v m' q from h)
  obtain ⟨tk, m1, p1, h3, h4⟩ := M.gives_bnd h2
  obtain ⟨rfl, rfl, rfl⟩ := newTok_gives h3
  obtain ⟨i, m2, p2, h5, h6⟩ := M.gives_bnd h4
  obtain ⟨rfl, rfl, rfl⟩ := newBlk_gives h5
  obtain ⟨rfl, rfl, rfl⟩ := M.gives_pure h6
  rw [beq_iff, lenL_eq] at h1
  exact ⟨h1, rfl, rfl, rfl⟩

/-- a new row behind a draw -/
theorem growM_ok (hm : MemR c m w) {sz need cap : Nat} {l : List V} {v : V} (h : (growM sz need l).gives c.ρ m p v m' q) {xs : List Value} {cs : Array Value} {e : TypeId} (hl : VRs c l xs)
    (hcs : ∀ (j : Nat) (y : Value), xs[j]? = some y → cs[j]? = some y) (hcap : need ≤ cap) (hsz : cap * sz ≤ cs.size) :
    q = p ∧ ∃ c', Step c m w c' m' (w.drew.alloc (.cells cs e)) ∧ VR c' v (.slice (some ⟨w.heap.size, 0, none⟩) need cap) := by
  obtain ⟨_, rfl, rfl, rfl⟩ := growM_gives h
  have s1 := Step.drew hm
  have s2 := Step.tok s1.rel (lb := need) (n := cap) hcap
  have hnt : (c.addT cap).γ c.nt = cap := if_pos rfl
  have s3 := Step.new s2.rel (b := .cells l true true (some (m.nt, sz))) (o := .cells cs e) ⟨cs, e, (0, 0), heap_push_new w.drew _, fun j v hj => by
      obtain ⟨x, hx, hr⟩ := hl.get hj
      exact ⟨x, by simpa using hcs j x hx, hr.mono ((c.le_addT cap).trans ((c.addT cap).le_addB w.drew))⟩, fun _ => rfl, fun _ => .inl rfl, by
      refine ⟨?_, ?_⟩
      · show m.nt < c.nt + 1; rw [hm.nt]; exact Nat.lt_succ_self _
      · show 0 + (c.addT cap).γ m.nt * sz ≤ cs.size
        rw [← hm.nt, hnt]; omega⟩
  refine ⟨rfl, _, (s1.trans s2).trans s3, VR.slice.2 ⟨?_, cap, ⟨?_, ?_⟩, hcap, ?_⟩⟩
  · show m.nb < c.nb + 1; rw [hm.nb]; exact Nat.lt_succ_self _
  · show m.nt < c.nt + 1; rw [hm.nt]; exact Nat.lt_succ_self _
  · show cap + 0 = (c.addT cap).γ m.nt
    rw [← hm.nt, hnt]; rfl
  · unfold Cx.ad
    rw [← hm.nb]
    show _ = Value.slice (some ⟨(((c.addT cap).addB w.drew).β (c.addT cap).nb).1, (((c.addT cap).addB w.drew).β (c.addT cap).nb).2 + 0, none⟩) need cap
    rw [Cx.addB_new]; rfl

theorem isOn_gives {i tk sz : Nat} (h : (isOn i tk sz).gives c.ρ m p () m' q) : m' = m ∧ q = p ∧ ∃ l, m.tr.get i = some (.cells l true true (some (tk, sz))) := by
  have h' : (selB (goesOn (m.tr.get i) tk sz) (T.ret (⟨(), m, p⟩ : Rs Unit)) (.fail "append a row of another make")).out c.ρ = some ⟨(), m', q⟩ := h
  cases hg : goesOn (m.tr.get i) tk sz with
  | false => rw [hg] at h'; simp [selB, T.out] at h'
  | true =>
    rw [hg] at h'
    simp only [selB, T.out, Option.some.injEq, Rs.mk.injEq] at h'
    obtain ⟨_, rfl, rfl⟩ := h'
    refine ⟨rfl, rfl, ?_⟩
    cases hb : m.tr.get i with
    | none => rw [hb] at hg; exact (Bool.false_ne_true hg).elim
    | some b =>
      rw [hb] at hg
      cases b with
      | map => exact (Bool.false_ne_true hg).elim
      | siter => exact (Bool.false_ne_true hg).elim
      | srow => exact (Bool.false_ne_true hg).elim
      | pm => exact (Bool.false_ne_true hg).elim
      | cells l wr pl g =>
        cases g with
        | none => exact absurd (show andB wr (andB pl false) = true from hg) (by simp)
        | some a =>
          obtain ⟨a1, a2⟩ := a
          have hg : andB wr (andB pl (andB (Nat.beq a1 tk) (Nat.beq a2 sz))) = true := hg
          simp only [andB_iff, beq_iff] at hg
          obtain ⟨rfl, rfl, rfl, rfl⟩ := hg
          exact ⟨l, rfl⟩

theorem killBlk_gives {i : Nat} (h : (killBlk i).gives c.ρ m p () m' q) : m' = ⟨m.tr.del i, m.nb, m.tok, m.nt⟩ ∧ q = p := by
  cases m
  simp [M.gives, killBlk, T.out] at h
  exact ⟨h.1.symm, h.2.symm⟩

theorem size_zero (z : Array Value) (n : Nat) : (Builtin.zeroCells z n).size = n * z.size := by simp [Builtin.zeroCells]

/-- the cells of a new row -/
theorem row_front {olds news zs : Array Value} {j : Nat} {y : Value} (h : (olds.toList ++ news.toList)[j]? = some y) : (olds ++ news ++ zs)[j]? = some y := by
  have hj : j < (olds ++ news).size := by
    have := (List.getElem?_eq_some_iff.1 h).1
    simpa using this
  rw [Array.getElem?_append_left hj, ← Array.getElem?_toList, Array.toList_append]
  exact h

theorem firstR_length (hm : MemR c m w) {sz n : Nat} {i o len : Nat} {cp : Cp} {l : List V} (h : (firstR sz n (.slice i o len cp)).gives c.ρ m p l q) : l.length = n * sz :=
  (rdCells_ok (P := default) hm (show (rdCells i o (Nat.mul n sz)).gives c.ρ m p l q from h)).2.1

/-- an append with a new row, as a step -/
theorem appNew_ok (hm : MemR c m w) {sz sLen sCap n : Nat} {lo ln : List V} {v : V} {olds news : Array Value} {t ty e : TypeId} {ts : Array TypeId} {us : List TypeId} {xs : Array Value} {base : Option Addr} {X z : Value} {i : TypeInfo}
    (h : (growM sz (sLen + n) (lo ++ ln)).gives c.ρ m p v m' q) (hlo : VRs c lo olds.toList) (hln : VRs c ln news.toList)
    (hts : ts.toList = t :: us) (hpl : plainSrc P us = true) (h0 : xs[0]? = some (.slice base sLen sCap)) (h1 : xs[1]? = some X) (ht : P.underlying t = some (.slice e)) (hi : P.info? e = some i) (hz : i.zero = some z)
    (hzs : z.cells.size = i.size) (hisz : i.size = sz)
    (hn : (Builtin.lenOf X).run P w = .ok n w) (ho : (Builtin.firstCells i.size sLen (.slice base sLen sCap)).run P w.drew = .ok olds w.drew) (hf : (Builtin.firstCells i.size n X).run P w.drew = .ok news w.drew)
    (hr : sCap < sLen + n) (hb : 0 < i.bytes) (hg : (sLen + n) * i.bytes ≤ 1099511627776) :
    q = p ∧ EfOK P c m w m' v (Builtin.append_ ts ty xs) := by
  have hrun := run_append_new (ty := ty) hts hpl h0 h1 ht hi hz hn ho hf hr hb hg
  have hge : sLen + n ≤ grownCap w (sLen + n) sCap e := grownCap_ge w (sLen + n) sCap e
  obtain ⟨hl, _⟩ := growM_gives h
  have hlen : olds.size + news.size = (sLen + n) * sz := by
    have a := hlo.length; have b := hln.length
    simp at a b
    rw [← hl, List.length_append]; omega
  obtain ⟨rfl, c', h2, h3⟩ := growM_ok hm h (cs := olds ++ news ++ Builtin.zeroCells z.cells (grownCap w (sLen + n) sCap e - (sLen + n))) (e := e) (hlo.append hln) (fun j y hy => row_front hy) hge (by
    rw [Array.size_append, Array.size_append, hlen, size_zero, hzs, hisz, ← Nat.add_mul]
    exact Nat.le_of_eq (by congr 1; omega))
  exact ⟨rfl, c', _, _, h2, hrun, h3⟩

theorem cell_ad (hm : MemR c m w) {i o : Nat} {l : List V} {n : Nat} (h : (rdCells i o n).gives c.ρ m p l q) (w' : World) (hw : ∀ j, j < n → w'.cell? ((c.ad i o).add j) = w.cell? ((c.ad i o).add j)) :
    ∃ olds : Array Value, VRs c l olds.toList ∧ (loadCells (c.ad i o) n).run P w' = .ok olds w' := by
  obtain ⟨_, h1, xs, h2, h3, h4⟩ := rdCells_ok (P := P) hm h
  have hlen : xs.size = n := by have := h3.length; simp at this; omega
  have : (loadCells (c.ad i o) n).run P w' = .ok (((List.range n).map fun j => xs[j]!).toArray) w' :=
    run_loadCells w' (c.ad i o) n _ fun j hj => by
      have hj' : j < xs.size := by omega
      rw [getElem!_pos xs j hj', hw j hj]
      exact h4 j xs[j] (by simp [hj'])
  have he : ((List.range n).map fun j => xs[j]!).toArray = xs := by
    apply Array.ext
    · simp [hlen]
    · intro j h5 h6
      simp at h5
      simp [getElem!_pos xs j h6]
  rw [he] at this
  exact ⟨xs, h3, this⟩
end ops

end Go.Sy
