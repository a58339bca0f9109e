/-
  What is proved here: the evaluator's append is that of the model.
  Conditions: none.
-/
import Derived.Test.YtcipfcbaclfnhaaSyAppend2
namespace Go.Sy

section ops
variable {P : Program} {c : Cx} {m m' : Mem} {w : World} {p q : Pc}

theorem firstR_zero (hm : MemR c m w) {sz : Nat} {x : V} {l : List V} (h : (firstR sz 0 x).gives c.ρ m p l q) : l = [] := by
  cases x <;> try exact (R.gives_fail (s := "slice or string") h).elim
  case slice i o len cp =>
    have := firstR_length hm h
    exact List.eq_nil_of_length_eq_zero (by simpa using this)
  case nilSlice => exact (R.gives_pure (show (R.pure []).gives c.ρ m p l q from h)).1
  case eslice => exact (R.gives_pure (show (R.pure []).gives c.ρ m p l q from h)).1
  case str es =>
    obtain ⟨h1, _⟩ := R.gives_opt (show (R.opt "bytes" ((takeE 0 es).map fun r => r.map (V.int .u8))).gives c.ρ m p l q from h)
    have h1 : some [] = some l := h1
    simpa using h1.symm

theorem run_first0 (sz : Nat) (a : Addr) (len cap : Nat) (w : World) : (Builtin.firstCells sz 0 (.slice (some a) len cap)).run P w = .ok #[] w := by
  have := run_loadCells (P := P) w a 0 (fun _ => undef) (fun j hj => by omega)
  simpa [Builtin.firstCells] using this

theorem firstCells_zero {x : V} {X : Value} {sz n : Nat} (hx : VR c x X) (hn : lenV x = some n) : (Builtin.firstCells sz 0 X).run P w = .ok #[] w := by
  cases x <;> try exact absurd (show none = some n from hn) (by simp)
  case slice i o len cp =>
    obtain ⟨_, cap, _, _, rfl⟩ := VR.slice.1 hx
    exact run_first0 _ _ _ _ _
  case eslice i z =>
    obtain ⟨_, o, cap, rfl, _⟩ := VR.eslice.1 hx
    exact run_first0 _ _ _ _ _
  case nilSlice => rw [VR.nilSlice] at hx; subst hx; simp [Builtin.firstCells]
  case str l => obtain ⟨s, rfl, _⟩ := VR.str.1 hx; simp [Builtin.firstCells]

/-- an append within a row of unknown capacity -/
theorem appHere_ok (hm : MemR c m w) {i o sz len n k tk cap : Nat} {l lo : List V} {v : V} {news olds : Array Value} {lk : List V}
    (hb : m.tr.get i = some (.cells lk true true (some (tk, sz)))) (hg : (growM sz (len + n) (lo ++ l)).gives c.ρ ⟨m.tr.del i, m.nb, m.tok, m.nt⟩ p v m' q)
    (hlo : VRs c lo olds.toList) (holds : ∀ (j : Nat) (y : Value), olds.toList[j]? = some y → w.cell? ((c.ad i o).add j) = some y) (hloz : lo.length = len * sz)
    (hl : VRs c l news.toList) (hall : allCells l = true) (ho : o = k * sz) (hcap : cap + k = c.γ tk) (hr : len + n ≤ cap) :
    q = p ∧ ∃ c' w', Step c m w c' m' w' ∧ (storeCells ((c.ad i o).add (len * sz)) news.toList).run P w = .ok () w' ∧ VR c' v (.slice (some (c.ad i o)) (len + n) cap) := by
  obtain ⟨hlen, rfl, rfl, rfl⟩ := growM_gives hg
  obtain ⟨hi, cs, t, fr, h4, _, h6, _, h8⟩ := hm.blk i _ hb
  have hfr := h6 rfl
  subst hfr
  have h8 : (c.β i).2 + c.γ tk * sz ≤ cs.size := h8.2
  have hls := hl.length
  have hos := hlo.length
  have hnl : news.toList.length = n * sz := by
    rw [List.length_append, hloz, Nat.add_mul] at hlen; omega
  have hfit' : o + len * sz + n * sz ≤ c.γ tk * sz := by
    rw [ho, ← hcap, ← Nat.add_mul, ← Nat.add_mul]
    exact Nat.mul_le_mul_right _ (by omega)
  have hfit : (c.β i).2 + (o + len * sz) + 0 + news.toList.length ≤ cs.size := by omega
  have hrun := run_storeCells (P := P) (c.β i).1 ((c.β i).2 + (o + len * sz)) t (0, 0) news.toList 0 cs w h4 (.inl rfl) hfit (oneCells hl hall)
  have s1 := Step.tok hm (lb := len + n) (n := cap) hr
  have hnt : (c.addT cap).γ c.nt = cap := if_pos rfl
  have hsz : ((cs.toList.take ((c.β i).2 + (o + len * sz) + 0) ++ news.toList ++ cs.toList.drop ((c.β i).2 + (o + len * sz) + 0 + news.toList.length)).toArray).size = cs.size := by
    have hns : news.size = n * sz := by simpa using hnl
    simp; omega
  have s2 := Step.move s1.rel (i := i) (loc := ((c.β i).1, (c.β i).2 + o)) (b' := .cells (lo ++ l) true true (some (m.nt, sz)))
    (w' := w.setRow (c.β i).1 (cs.toList.take ((c.β i).2 + (o + len * sz) + 0) ++ news.toList ++ cs.toList.drop ((c.β i).2 + (o + len * sz) + 0 + news.toList.length)).toArray)
    hb rfl rfl (by
      refine ⟨_, t, (0, 0), setRow_heap w _ cs _ t (0, 0) h4, fun j v hj => ?_, fun _ => rfl, fun _ => .inl rfl, ?_, ?_⟩
      · have hle := (c.le_addT cap).trans ((c.addT cap).le_addL ((c.β i).1, (c.β i).2 + o))
        simp only [List.getElem?_toArray]
        have htc : (cs.toList.take ((c.β i).2 + (o + len * sz) + 0)).length = (c.β i).2 + (o + len * sz) := by simp; omega
        rcases Nat.lt_or_ge j (len * sz) with hjl | hjl
        · rw [List.getElem?_append_left (by omega)] at hj
          obtain ⟨x, hx, hr'⟩ := hlo.get hj
          refine ⟨x, ?_, hr'.mono hle⟩
          have hc := holds j x hx
          rw [Cx.ad_add] at hc
          have hc : cs[(c.β i).2 + (o + j)]? = some x := by simpa [World.cell?, Cx.ad, h4] using hc
          show (List.take _ cs.toList ++ news.toList ++ List.drop _ cs.toList)[(c.β i).2 + o + j]? = some x
          rw [List.append_assoc, List.getElem?_append_left (by omega), List.getElem?_take_of_lt (by omega), Nat.add_assoc]
          simpa using hc
        · rw [List.getElem?_append_right (by omega)] at hj
          obtain ⟨x, hx, hr'⟩ := hl.get hj
          refine ⟨x, ?_, hr'.mono hle⟩
          have hjn := (List.getElem?_eq_some_iff.1 hx).1
          show (List.take _ cs.toList ++ news.toList ++ List.drop _ cs.toList)[(c.β i).2 + o + j]? = some x
          rw [List.append_assoc, List.getElem?_append_right (by omega), htc, List.getElem?_append_left (by omega)]
          have : (c.β i).2 + o + j - ((c.β i).2 + (o + len * sz)) = j - lo.length := by omega
          rw [this]; exact hx
      · show m.nt < c.nt + 1; rw [hm.nt]; exact Nat.lt_succ_self _
      · rw [hsz]
        show (c.β i).2 + o + (c.addT cap).γ m.nt * sz ≤ cs.size
        rw [← hm.nt, hnt]
        have : o + cap * sz = c.γ tk * sz := by rw [ho, ← hcap, ← Nat.add_mul, Nat.add_comm]
        omega)
    (by simp) (fun k' hk => setRow_other w _ k' _ hk) rfl rfl rfl
  refine ⟨rfl, _, _, s1.trans s2, ?_, VR.slice.2 ⟨?_, cap, ⟨?_, ?_⟩, hr, ?_⟩⟩
  · rw [Cx.ad_add]; exact hrun
  · show m.nb < c.nb + 1; rw [hm.nb]; exact Nat.lt_succ_self _
  · show m.nt < c.nt + 1; rw [hm.nt]; exact Nat.lt_succ_self _
  · show cap + 0 = (c.addT cap).γ m.nt
    rw [← hm.nt, hnt]; rfl
  · unfold Cx.ad
    rw [← hm.nb]
    show _ = Value.slice (some ⟨(((c.addT cap).addL ((c.β i).1, (c.β i).2 + o)).β (c.addT cap).nb).1, (((c.addT cap).addL ((c.β i).1, (c.β i).2 + o)).β (c.addT cap).nb).2 + 0, none⟩) (len + n) cap
    rw [Cx.addL_new]; rfl
end ops

end Go.Sy
