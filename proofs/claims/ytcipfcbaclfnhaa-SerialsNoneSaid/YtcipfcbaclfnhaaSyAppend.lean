/-
  What is proved here: the evaluator's copies and appends are those of the model.
  Conditions: none.
-/
import Derived.Test.YtcipfcbaclfnhaaSyWrite
namespace Go.Sy

section ops
variable {P : Program} {c : Cx} {m m' : Mem} {w : World} {p q : Pc}

theorem MemR.drew (h : MemR c m w) : MemR c m w.drew := (Step.drew h).rel

/-- the first elements of a slice, or of a string -/
theorem firstR_ok (hm : MemR c m w) {sz n : Nat} {x : V} {X : Value} {l : List V} (hx : VR c x X) (h : (firstR sz n x).gives c.ρ m p l q) :
    q = p ∧ ∃ xs : Array Value, VRs c l xs.toList ∧ (Builtin.firstCells sz n X).run P w = .ok xs w ∧ (Builtin.firstCells sz n X).run P w.drew = .ok xs w.drew := by
  cases x <;> try exact (R.gives_fail (s := "slice or string") h).elim
  case slice i o len cp =>
    obtain ⟨_, cap, _, _, rfl⟩ := VR.slice.1 hx
    have hk : (rdCells i o (Nat.mul n sz)).gives c.ρ m p l q := h
    obtain ⟨rfl, _, xs, h1, h2, h3⟩ := rdCells_ok (P := P) hm hk
    refine ⟨rfl, xs, h2, h1, ?_⟩
    have hlen : xs.size = n * sz := by
      obtain ⟨_, h4, ys, h5, h6, _⟩ := rdCells_ok (P := P) hm hk
      have := h2.length; simp at this; rw [this, h4]; rfl
    have : (loadCells (c.ad i o) (n * sz)).run P w.drew = .ok (((List.range (n * sz)).map fun j => xs[j]!).toArray) w.drew :=
      run_loadCells w.drew (c.ad i o) (n * sz) _ fun j hj => by
        have hj' : j < xs.size := by omega
        have h4 := h3 j xs[j] (by simp [hj'])
        rw [getElem!_pos xs j hj']
        exact h4
    have he : ((List.range (n * sz)).map fun j => xs[j]!).toArray = xs := by
      apply Array.ext
      · simp [hlen]
      · intro j h4 h5
        simp at h4
        simp [getElem!_pos xs j h5]
    rw [he] at this
    exact this
  case nilSlice =>
    obtain ⟨rfl, rfl⟩ := R.gives_pure (show (R.pure []).gives c.ρ m p l q from h)
    rw [VR.nilSlice] at hx; subst hx
    exact ⟨rfl, #[], VRs.nil, by simp [Builtin.firstCells], by simp [Builtin.firstCells]⟩
  case eslice i z =>
    obtain ⟨_, o, cap, rfl, _⟩ := VR.eslice.1 hx
    cases n with
    | succ n => exact (R.gives_fail (s := "slice or string") h).elim
    | zero =>
      obtain ⟨rfl, rfl⟩ := R.gives_pure (show (R.pure []).gives c.ρ m p l q from h)
      have h1 : ∀ w, (Builtin.firstCells sz 0 (.slice (some (c.ad i o)) 0 cap)).run P w = .ok #[] w := fun w => by
        have := run_loadCells (P := P) w (c.ad i o) 0 (fun _ => undef) (fun j hj => by omega)
        simpa [Builtin.firstCells] using this
      exact ⟨rfl, #[], VRs.nil, h1 w, h1 w.drew⟩
  case str es =>
    obtain ⟨s, rfl, hs⟩ := VR.str.1 hx
    obtain ⟨h1, rfl⟩ := R.gives_opt (show (R.opt "bytes" ((takeE n es).map fun r => r.map (V.int .u8))).gives c.ρ m p l q from h)
    obtain ⟨r, h2, rfl⟩ := Option.map_eq_some_iff.1 h1
    obtain ⟨h3, h4⟩ := takeE_eq h2
    refine ⟨rfl, (s.extract 0 n).data.map fun b => .int .u8 b.toNat, ?_, by simp [Builtin.firstCells], by simp [Builtin.firstCells]⟩
    have hn : n ≤ es.length := by rw [h3] at h4; simp at h4; omega
    have hsl := hs.length
    have hsz : s.data.size = es.length := by simpa using hsl
    refine VRs.of_get ?_ fun j v hv => ?_
    · have : s.size = s.data.size := rfl
      simp [ByteArray.data_extract, h4]; omega
    · rw [List.getElem?_map, Option.map_eq_some_iff] at hv
      obtain ⟨e, he, rfl⟩ := hv
      rw [h3, List.getElem?_take] at he
      split at he
      · rename_i hj
        obtain ⟨b, hb, hd⟩ := hs.get he
        refine ⟨.int .u8 b.toNat, ?_, VR.int.2 ⟨by rw [hd], by rw [hd]; simp [kMin, IntKind.signed], ?_⟩⟩
        · have hb' : s.data[j]? = some b := by simpa using hb
          simp [ByteArray.data_extract, hj, hb']
        · rw [hd]; have := b.toNat_lt; simp [kMax, limN]; omega
      · simp at he

theorem lenV_ok {x : V} {X : Value} {n : Nat} (hx : VR c x X) (h : lenV x = some n) (w' : World) : (Builtin.lenOf X).run P w' = .ok n w' := by
  cases x <;> try exact absurd (show none = some n from h) (by simp)
  case slice i o len cp =>
    obtain ⟨_, cap, _, _, rfl⟩ := VR.slice.1 hx
    have h : some len = some n := h
    simp at h; subst h
    simp [Builtin.lenOf]
  case nilSlice =>
    rw [VR.nilSlice] at hx; subst hx
    have h : some 0 = some n := h
    simp at h; subst h
    simp [Builtin.lenOf]
  case eslice i z =>
    obtain ⟨_, o, cap, rfl, _⟩ := VR.eslice.1 hx
    have h : some 0 = some n := h
    simp at h; subst h
    simp [Builtin.lenOf]
  case str l =>
    obtain ⟨s, rfl, hs⟩ := VR.str.1 hx
    have h : some (lenL l) = some n := h
    simp at h; subst h
    have : lenL l = s.size := by rw [lenL_eq, ← hs.length]; simp
    simp [Builtin.lenOf, this]

/-- what an operation that may write does -/
def EfOK (P : Program) (c : Cx) (m : Mem) (w : World) (m' : Mem) (v : V) (s : Sem Value) : Prop :=
  ∃ c' w' z, Step c m w c' m' w' ∧ s.run P w = .ok z w' ∧ VR c' v z

theorem minN_eq (a b : Nat) : minN a b = Nat.min a b := by
  unfold minN
  cases h : Nat.ble a b with
  | true => rw [ble_iff] at h; show a = Nat.min a b; exact (Nat.min_eq_left h).symm
  | false =>
    have : ¬ a ≤ b := fun e => by rw [(ble_iff _ _).2 e] at h; simp at h
    show b = Nat.min a b
    exact (Nat.min_eq_right (by omega)).symm

theorem copyM_ok (hm : MemR c m w) {t ty : TypeId} {ts : Array TypeId} {xs : Array Value} {d s v : V} {D S : Value} (hts : ts[0]? = some t) (h0 : xs[0]? = some D) (h1 : xs[1]? = some S) (hd : VR c d D) (hs : VR c s S)
    (h : (copyM P t d s).gives c.ρ m p v m' q) : q = p ∧ EfOK P c m w m' v (Builtin.copy_ ts ty xs) := by
  unfold copyM at h
  cases ha : slcOf P t with
  | none => rw [ha] at h; exact (M.gives_fail h).elim
  | some a =>
    cases hdn : lenV d with
    | none => rw [ha, hdn] at h; exact (M.gives_fail h).elim
    | some dn =>
      cases hsn : lenV s with
      | none => rw [ha, hdn, hsn] at h; exact (M.gives_fail h).elim
      | some sn =>
        rw [ha, hdn, hsn] at h
        obtain ⟨hu, hsz⟩ := slcOf_some ha
        obtain ⟨l, p1, h2, h3⟩ := R.gives_thn (show ((firstR a.2 (minN sn dn) s).thn fun l => copyL (minN sn dn) d l).gives c.ρ m p v m' q from h)
        clear h
        obtain ⟨rfl, cells, h4, h5, _⟩ := firstR_ok (P := P) hm hs h2
        rw [minN_eq] at h5
        have hls := lenV_ok (P := P) hs hsn w
        have hld := lenV_ok (P := P) hd hdn w
        cases d <;> try exact (M.gives_fail (s := "copy") h3).elim
        case nilSlice =>
          rw [VR.nilSlice] at hd; subst hd
          have hz : dn = 0 := by have : some 0 = some dn := hdn; simpa using this.symm
          subst hz
          cases l with
          | cons => exact (M.gives_fail (s := "copy") h3).elim
          | nil =>
            rw [VRs.nil_iff] at h4
            have h3 : ((lenN (minN sn 0)).thn M.pure).gives c.ρ m p1 v m' q := h3
            obtain ⟨v', p2, h6, h7⟩ := R.gives_thn h3
            obtain ⟨rfl, rfl, rfl⟩ := M.gives_pure h7
            obtain ⟨rfl, h8⟩ := lenN_ok h6
            refine ⟨rfl, c, w, _, Step.refl hm, ?_, h8⟩
            have hmn : Nat.min sn 0 = 0 := Nat.min_eq_right (Nat.zero_le _)
            rw [hmn] at h5
            simp [Builtin.copy_, hts, h0, h1, run_und hu, hls, run_size hsz, hmn, h5, minN_eq]
        case slice i o len cp =>
          obtain ⟨_, cap, _, _, rfl⟩ := VR.slice.1 hd
          have hz : dn = len := by have : some len = some dn := hdn; simpa using this.symm
          subst hz
          obtain ⟨_, m1, p2, h6, h7⟩ := M.gives_bnd (show ((wrSome i o l).bnd fun _ => (lenN (minN sn dn)).thn M.pure).gives c.ρ m p1 v m' q from h3)
          obtain ⟨v', p3, h8, h9⟩ := R.gives_thn h7
          obtain ⟨rfl, rfl, rfl⟩ := M.gives_pure h9
          obtain ⟨rfl, h10⟩ := lenN_ok h8
          obtain ⟨rfl, w', h11, h12⟩ := wrSome_ok (P := P) hm h4 h6
          refine ⟨rfl, c, w', _, h11, ?_, h10⟩
          simp [Builtin.copy_, hts, h0, h1, run_und hu, hls, run_size hsz, h5, h12, minN_eq]

/-! ### appends -/

theorem plainSrc_ok {ts : Array TypeId} {t : TypeId} {us : List TypeId} (hts : ts.toList = t :: us) (h : plainSrc P us = true) :
    ts[0]? = some t ∧ (ts[1]? = none ∨ ∃ u d, ts[1]? = some u ∧ P.underlying u = some d ∧ ∀ k, d ≠ .int k) := by
  have h0 : ts[0]? = some t := by rw [← Array.getElem?_toList, hts]; rfl
  refine ⟨h0, ?_⟩
  cases us with
  | nil => left; rw [← Array.getElem?_toList, hts]; rfl
  | cons u us =>
    right
    unfold plainSrc at h
    simp only at h
    split at h
    · simp at h
    · rename_i d h1 h2
      exact ⟨u, d, by rw [← Array.getElem?_toList, hts]; rfl, h2, fun k e => h1 k (by rw [e])⟩
    · simp at h

/-- is the second argument a number? it is not -/
theorem no_int {d : TypeDesc} (hd : ∀ k, d ≠ .int k) : (d matches .int _) = false := by
  cases d <;> first | exact absurd rfl (hd _) | rfl

/-- an append with room -/
theorem run_append_in {t ty e : TypeId} {ts : Array TypeId} {us : List TypeId} {xs : Array Value} {base : Option Addr} {sLen sCap n : Nat} {X : Value} {i : TypeInfo} {news : Array Value} {w' : World}
    (hts : ts.toList = t :: us) (hpl : plainSrc P us = true) (h0 : xs[0]? = some (.slice base sLen sCap)) (h1 : xs[1]? = some X) (ht : P.underlying t = some (.slice e)) (hi : P.info? e = some i)
    (hn : (Builtin.lenOf X).run P w = .ok n w) (hf : (Builtin.firstCells i.size n X).run P w = .ok news w) (hr : sLen + n ≤ sCap)
    (hs : match base with | none => w' = w | some a => (storeCells (a.add (sLen * i.size)) news.toList).run P w = .ok () w') :
    (Builtin.append_ ts ty xs).run P w = .ok (.slice base (sLen + n) sCap) w' := by
  obtain ⟨ht0, ht1⟩ := plainSrc_ok (P := P) hts hpl
  rcases ht1 with ht1 | ⟨u, d, ht1, hu, hd⟩
  · cases base with
    | none => subst hs; simp [Builtin.append_, ht0, ht1, h0, h1, run_und ht, sizeOf, run_info hi, hn, hr, hf]
    | some a => simp [Builtin.append_, ht0, ht1, h0, h1, run_und ht, sizeOf, run_info hi, hn, hr, hf, hs]
  · unfold Builtin.append_
    simp only [ht0, ht1, h0, h1]
    rw [Sem.run_bind, run_und ht, Result.andThen_ok]
    simp only []
    rw [Sem.run_bind, show (sizeOf e).run P w = .ok i.size w by simp [sizeOf, run_info hi], Result.andThen_ok, Sem.run_bind, run_und hu, Result.andThen_ok]
    simp only []
    cases base with
    | none => subst hs; simp [hn, hr, hf]
    | some a => simp [hn, hr, hf, hs]

/-- an append that lays a new row -/
theorem run_append_new {t ty e : TypeId} {ts : Array TypeId} {us : List TypeId} {xs : Array Value} {base : Option Addr} {sLen sCap n : Nat} {X z : Value} {i : TypeInfo} {olds news : Array Value}
    (hts : ts.toList = t :: us) (hpl : plainSrc P us = true) (h0 : xs[0]? = some (.slice base sLen sCap)) (h1 : xs[1]? = some X) (ht : P.underlying t = some (.slice e)) (hi : P.info? e = some i) (hz : i.zero = some z)
    (hn : (Builtin.lenOf X).run P w = .ok n w) (ho : (Builtin.firstCells i.size sLen (.slice base sLen sCap)).run P w.drew = .ok olds w.drew) (hf : (Builtin.firstCells i.size n X).run P w.drew = .ok news w.drew)
    (hr : sCap < sLen + n) (hb : 0 < i.bytes) (hg : (sLen + n) * i.bytes ≤ 1099511627776) :
    (Builtin.append_ ts ty xs).run P w = .ok (.slice (some ⟨w.heap.size, 0, none⟩) (sLen + n) (grownCap w (sLen + n) sCap e))
      (w.drew.alloc (.cells (olds ++ news ++ Builtin.zeroCells z.cells (grownCap w (sLen + n) sCap e - (sLen + n))) e)) := by
  obtain ⟨ht0, ht1⟩ := plainSrc_ok (P := P) hts hpl
  have hr' : ¬ (sLen + n ≤ sCap) := by omega
  have hle : sLen + n ≤ (sLen + n) * i.bytes := Nat.le_mul_of_pos_right _ hb
  have hb' : i.bytes ≠ 0 := by omega
  have h48 : ¬ (281474976710656 < Builtin.nextslicecap (sLen + n) sCap * i.bytes) := by
    have := growslice_fits hr (bytes := i.bytes) (by omega)
    omega
  rcases ht1 with ht1 | ⟨u, d, ht1, hu, hd⟩
  · simp [Builtin.append_, ht0, ht1, h0, h1, run_und ht, sizeOf, run_info hi, zeroValue, hz, hn, hr', hb', h48, ho, hf, Question.forced, newRow, grownCap]
  · unfold Builtin.append_
    simp only [ht0, ht1, h0, h1]
    rw [Sem.run_bind, run_und ht, Result.andThen_ok]
    simp only []
    rw [Sem.run_bind, show (sizeOf e).run P w = .ok i.size w by simp [sizeOf, run_info hi], Result.andThen_ok, Sem.run_bind, run_und hu, Result.andThen_ok]
    simp only []
    simp [run_info hi, zeroValue, hz, hn, hr', hb', h48, ho, hf, Question.forced, newRow, grownCap]
end ops

end Go.Sy
