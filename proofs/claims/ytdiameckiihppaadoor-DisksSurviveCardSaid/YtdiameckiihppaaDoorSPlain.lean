/-
  What is proved here: plain words: what a disk in lists holds behind writes, synchronizing and cuts.
  Conditions: none.
-/
import Derived.Test.YtdiameckiihppaaDoorSBlock
import Derived.Test.YtdiameckiihppaaDoorSNew
namespace Go.Proofs.YtdiameckiihppaaDoor

/-- what a block reads as -/
def vf (es : List Ent) (M : Nat → Option Ent) (n : Nat) : List Int := match es.find? fun e => e.n == n with | some e => e.b | none => medB M n

theorem idx_find (n : Nat) (es : List Ent) : (match idxE n es with | some i => ((es[i]?).map Ent.b).getD [] | none => ([] : List Int)) = (match es.find? fun e => e.n == n with | some e => e.b | none => []) ∧ (idxE n es = none ↔ es.find? (fun e => e.n == n) = none) := by
  unfold idxE
  induction es with
  | nil => simp
  | cons x xs ih =>
    by_cases h : (x.n == n) = true
    · simp [List.findIdx?_cons, h]
    · have h : (x.n == n) = false := by simpa using h
      rw [List.findIdx?_cons, List.find?_cons]
      simp only [h, Bool.false_eq_true, if_false]
      cases hx : xs.findIdx? (fun e => e.n == n) with
      | none =>
        rw [hx] at ih
        simp only [Option.map_none] at ih ⊢
        exact ⟨ih.1, ih.2⟩
      | some i =>
        rw [hx] at ih
        simp only [Option.map_some] at ih ⊢
        exact ⟨by simpa using ih.1, by simpa using ih.2⟩
theorem val_vf (st : St) (n : Nat) : st.val n = vf st.cache st.med n := by
  obtain ⟨h1, h2⟩ := idx_find n st.cache
  unfold St.val vf
  cases hi : idxE n st.cache with
  | none => rw [h2.1 hi]
  | some i =>
    rw [hi] at h1
    cases hf : st.cache.find? (fun e => e.n == n) with
    | none => rw [h2.2 hf] at hi; cases hi
    | some e => rw [hf] at h1; exact h1

def NdE (es : List Ent) : Prop := (es.map Ent.n).Nodup
theorem NdE.tail {x : Ent} {xs : List Ent} (h : NdE (x :: xs)) : NdE xs := (List.nodup_cons.1 h).2
theorem NdE.head {x : Ent} {xs : List Ent} (h : NdE (x :: xs)) : ∀ e ∈ xs, e.n ≠ x.n := fun e he hn => (List.nodup_cons.1 h).1 (List.mem_map.2 ⟨e, he, hn⟩)
theorem find_none {xs : List Ent} {n : Nat} (h : ∀ e ∈ xs, e.n ≠ n) : xs.find? (fun e => e.n == n) = none := by
  rw [List.find?_eq_none]
  intro e he
  simpa using h e he

theorem medB_put (M : Nat → Option Ent) (e : Ent) (m : Nat) : medB (putM M e.n e) m = if m = e.n then e.b else medB M m := by
  unfold medB putM
  by_cases h : m = e.n
  · rw [if_pos h, if_pos h]
  · rw [if_neg h, if_neg h]
theorem medB_putn (M : Nat → Option Ent) (n : Nat) (e : Ent) (m : Nat) : medB (putM M n e) m = if m = n then e.b else medB M m := by
  unfold medB putM
  by_cases h : m = n
  · rw [if_pos h, if_pos h]
  · rw [if_neg h, if_neg h]

theorem vf_cons_eq {x : Ent} {xs : List Ent} {M : Nat → Option Ent} : vf (x :: xs) M x.n = x.b := by
  unfold vf
  simp
theorem vf_cons_ne {x : Ent} {xs : List Ent} {M : Nat → Option Ent} {m : Nat} (h : m ≠ x.n) : vf (x :: xs) M m = vf xs M m := by
  unfold vf
  rw [List.find?_cons]
  have : (x.n == m) = false := by simpa using fun e => h e.symm
  rw [this]
theorem vf_land {x : Ent} {xs : List Ent} {M : Nat → Option Ent} (h : NdE (x :: xs)) (m : Nat) : vf xs (putM M x.n x) m = vf (x :: xs) M m := by
  by_cases hm : m = x.n
  · subst hm
    rw [vf_cons_eq]
    unfold vf
    rw [find_none h.head]
    dsimp only
    rw [medB_put, if_pos rfl]
  · rw [vf_cons_ne hm]
    unfold vf
    split
    · rfl
    · rw [medB_put, if_neg hm]
theorem vf_sync : ∀ (xs : List Ent) (M : Nat → Option Ent), NdE xs → ∀ m, medB (syncL xs M) m = vf xs M m
  | [], M, _, m => rfl
  | x :: xs, M, h, m => by
    show medB (syncL xs (putM M x.n x)) m = _
    rw [vf_sync xs _ h.tail, vf_land h]
theorem vf_cut (f : Nat → Bool) : ∀ (xs : List Ent) (j : Nat) (M : Nat → Option Ent), NdE xs → ∀ m, medB (cutL f j xs M) m = medB M m ∨ medB (cutL f j xs M) m = vf xs M m
  | [], j, M, _, m => .inl rfl
  | x :: xs, j, M, h, m => by
    show medB (cutL f (j + 1) xs (if f j then putM M x.n x else M)) m = _ ∨ medB (cutL f (j + 1) xs (if f j then putM M x.n x else M)) m = _
    cases f j with
    | true =>
      rw [if_pos rfl]
      rcases vf_cut f xs (j + 1) (putM M x.n x) h.tail m with e | e
      · rw [e, medB_put]
        by_cases hm : m = x.n
        · subst hm
          rw [if_pos rfl]
          exact .inr vf_cons_eq.symm
        · rw [if_neg hm]; exact .inl rfl
      · rw [e, vf_land h]; exact .inr rfl
    | false =>
      rw [if_neg (by decide)]
      rcases vf_cut f xs (j + 1) M h.tail m with e | e
      · exact .inl e
      · rw [e]
        by_cases hm : m = x.n
        · subst hm
          left
          unfold vf
          rw [find_none h.head]
        · exact .inr (vf_cons_ne hm).symm
theorem vf_set : ∀ (xs : List Ent) (M : Nat → Option Ent) (i : Nat) (e x : Ent), NdE xs → xs[i]? = some x → x.n = e.n → ∀ m, vf (xs.set i e) M m = if m = e.n then e.b else vf xs M m
  | [], M, i, e, x, _, h, _, m => by simp at h
  | y :: ys, M, 0, e, x, hn, h, hx, m => by
    simp only [List.getElem?_cons_zero, Option.some.injEq] at h
    subst h
    rw [List.set_cons_zero]
    by_cases hm : m = e.n
    · subst hm
      rw [if_pos rfl, vf_cons_eq]
    · rw [if_neg hm, vf_cons_ne hm, vf_cons_ne (by rw [hx]; exact hm)]
  | y :: ys, M, i + 1, e, x, hn, h, hx, m => by
    have h : ys[i]? = some x := by simpa using h
    rw [List.set_cons_succ]
    have hyx : y.n ≠ e.n := by rw [← hx]; exact fun e' => hn.head x (List.mem_of_getElem? h) e'.symm
    by_cases hm : m = y.n
    · subst hm
      rw [vf_cons_eq, vf_cons_eq, if_neg hyx]
    · rw [vf_cons_ne hm, vf_cons_ne hm]
      exact vf_set ys M i e x hn.tail h hx m
theorem vf_app : ∀ (xs : List Ent) (M : Nat → Option Ent) (e : Ent), (∀ x ∈ xs, x.n ≠ e.n) → ∀ m, vf (xs ++ [e]) M m = if m = e.n then e.b else vf xs M m
  | [], M, e, _, m => by
    by_cases hm : m = e.n
    · subst hm
      rw [if_pos rfl]; exact vf_cons_eq
    · rw [if_neg hm]; exact vf_cons_ne hm
  | y :: ys, M, e, h, m => by
    rw [List.cons_append]
    have hy := h y (List.Mem.head _)
    by_cases hm : m = y.n
    · subst hm
      rw [vf_cons_eq, vf_cons_eq, if_neg hy]
    · rw [vf_cons_ne hm, vf_cons_ne hm]
      exact vf_app ys M e (fun x hx => h x (List.mem_cons_of_mem _ hx)) m

/-- what is as it should be -/
structure Inv (st : St) (safe : Nat → List Int) (since : Nat → List (List Int)) : Prop where
  pend : st.pend = false
  lt : ∀ e ∈ st.cache, e.n < st.B
  nd : NdE st.cache
  len : st.cache.length ≤ st.C
  val : ∀ n, n < st.B → vf st.cache st.med n = ((since n).getLast?).getD (safe n)
  med : ∀ n, n < st.B → medB st.med n = safe n ∨ medB st.med n ∈ since n

theorem getLast_or {safe : Nat → List Int} {since : Nat → List (List Int)} (n : Nat) : ((since n).getLast?).getD (safe n) = safe n ∨ ((since n).getLast?).getD (safe n) ∈ since n := by
  cases h : (since n).getLast? with
  | none => exact .inl rfl
  | some x => exact .inr (List.mem_of_getLast? h)

/-- everything is synchronized -/
theorem Inv.sync {st : St} {safe : Nat → List Int} {since : Nat → List (List Int)} (h : Inv st safe since) : Inv st.sync (fun n => ((since n).getLast?).getD (safe n)) (fun _ => []) where
  pend := h.pend
  lt := fun e he => by cases he
  nd := List.nodup_nil
  len := Nat.zero_le _
  val := fun n hn => (vf_sync st.cache st.med h.nd n).trans (h.val n hn)
  med := fun n hn => .inl ((vf_sync st.cache st.med h.nd n).trans (h.val n hn))

theorem mem_room {st : St} {e : Ent} (he : e ∈ st.room.cache) : e ∈ st.cache := by
  unfold St.room at he
  split at he
  · cases hc : st.cache with
    | nil => rw [hc] at he; dsimp only at he; rw [hc] at he; exact he
    | cons x xs =>
      rw [hc] at he
      simp only [St.land, hc, List.take_zero, List.nil_append, List.drop_succ_cons, List.drop_zero] at he
      exact List.mem_cons_of_mem _ he
  · exact he

/-- room is made -/
theorem room_ok {st : St} (hn : NdE st.cache) (hl : st.cache.length ≤ st.C) (hC : st.C ≠ 0) : NdE st.room.cache ∧ st.room.cache.length + 1 ≤ st.C ∧ (∀ m, vf st.room.cache st.room.med m = vf st.cache st.med m) ∧ ∀ m, medB st.room.med m = medB st.med m ∨ medB st.room.med m = vf st.cache st.med m := by
  unfold St.room
  split
  · cases hc : st.cache with
    | nil => rename_i h; rw [hc] at h; simp at h; omega
    | cons x xs =>
      rw [hc] at hn hl
      simp only [St.land, hc, List.take_zero, List.nil_append, List.drop_succ_cons, List.drop_zero]
      refine ⟨hn.tail, by simpa using hl, fun m => vf_land hn m, fun m => ?_⟩
      rw [medB_put]
      by_cases hm : m = x.n
      · subst hm
        rw [if_pos rfl]
        exact .inr vf_cons_eq.symm
      · rw [if_neg hm]; exact .inl rfl
  · exact ⟨hn, by omega, fun _ => rfl, fun _ => .inl rfl⟩
theorem room_B (st : St) : st.room.B = st.B ∧ st.room.C = st.C ∧ st.room.pend = st.pend := by
  unfold St.room
  split
  · split <;> exact ⟨rfl, rfl, rfl⟩
  · exact ⟨rfl, rfl, rfl⟩

/-- a block is written -/
theorem Inv.write {st : St} {safe : Nat → List Int} {since : Nat → List (List Int)} (h : Inv st safe since) (e : Ent) (he : e.n < st.B) : Inv (st.keep e) safe (fun m => if m = e.n then since m ++ [e.b] else since m) ∧ (st.keep e).val e.n = e.b ∧ (st.keep e).B = st.B := by
  have key : ∀ st' : St, st'.pend = false → st'.B = st.B → (∀ x ∈ st'.cache, x.n < st.B) → NdE st'.cache → st'.cache.length ≤ st'.C → (∀ m, vf st'.cache st'.med m = if m = e.n then e.b else vf st.cache st.med m) →
      (∀ m, medB st'.med m = medB st.med m ∨ medB st'.med m = vf st.cache st.med m ∨ (m = e.n ∧ medB st'.med m = e.b)) → Inv st' safe (fun m => if m = e.n then since m ++ [e.b] else since m) ∧ st'.val e.n = e.b ∧ st'.B = st.B := by
    intro st' k1 k2 k3 k4 k5 k6 k7
    refine ⟨⟨k1, fun x hx => by rw [k2]; exact k3 x hx, k4, k5, fun n hn => ?_, fun n hn => ?_⟩, by rw [val_vf, k6, if_pos rfl], k2⟩
    · rw [k6]
      by_cases hm : n = e.n
      · rw [if_pos hm, if_pos hm]; simp
      · rw [if_neg hm, if_neg hm]; exact h.val n (by rw [← k2]; exact hn)
    · have hn' : n < st.B := by rw [← k2]; exact hn
      have hmem : ∀ y, y ∈ since n → y ∈ (if n = e.n then since n ++ [e.b] else since n) := fun y hy => by
        split
        · exact List.mem_append_left _ hy
        · exact hy
      rcases k7 n with e1 | e1 | ⟨e0, e1⟩
      · rw [e1]; exact (h.med n hn').imp id (hmem _)
      · rw [e1, h.val n hn']
        exact (getLast_or n).imp id (hmem _)
      · rw [e1]
        right
        rw [if_pos e0]
        exact List.mem_append_right _ (List.Mem.head _)
  unfold St.keep
  cases hi : idxE e.n st.cache with
  | some i =>
    obtain ⟨x, hx, hxn⟩ := idx_some hi
    dsimp only
    have hmn : (st.cache.set i e).map Ent.n = st.cache.map Ent.n := by
      rw [List.map_set]
      apply List.ext_getElem?
      intro j
      by_cases hj : i = j
      · subst hj
        rw [List.getElem?_map, hx]
        have hl := (List.getElem?_eq_some_iff.1 hx).1
        rw [List.getElem?_set_self (by simpa using hl)]
        simp [hxn]
      · rw [List.getElem?_set_ne hj]
    refine key _ h.pend rfl (fun y hy => ?_) (by unfold NdE; rw [hmn]; exact h.nd) (by simpa using h.len) (fun m => vf_set _ _ i e x h.nd hx hxn m) (fun m => .inl rfl)
    rcases List.mem_or_eq_of_mem_set hy with hy | rfl
    · exact h.lt y hy
    · exact he
  | none =>
    have hno : ∀ x ∈ st.cache, x.n ≠ e.n := by
      have := (idx_find e.n st.cache).2.1 hi
      rw [List.find?_eq_none] at this
      intro x hx
      simpa using this x hx
    dsimp only
    by_cases hC : st.C = 0
    · rw [if_pos hC]
      have hc : st.cache = [] := List.length_eq_zero_iff.1 (by have := h.len; omega)
      refine key _ h.pend rfl h.lt h.nd h.len (fun m => ?_) (fun m => ?_)
      · dsimp only
        rw [hc]
        show medB (putM st.med e.n e) m = _
        rw [medB_put]
        rfl
      · rw [medB_put]
        by_cases hm : m = e.n
        · rw [if_pos hm]; exact .inr (.inr ⟨hm, rfl⟩)
        · rw [if_neg hm]; exact .inl rfl
    · rw [if_neg hC]
      obtain ⟨r1, r2, r3, r4⟩ := room_ok h.nd h.len hC
      obtain ⟨b1, b2, b3⟩ := room_B st
      have hno' : ∀ x ∈ st.room.cache, x.n ≠ e.n := fun x hx => hno x (mem_room hx)
      refine key _ (b3.trans h.pend) b1 (fun x hx => ?_) ?_ (by dsimp only; rw [List.length_append, b2]; exact r2) (fun m => ?_) (fun m => (r4 m).imp id .inl)
      · rcases List.mem_append.1 hx with hx | hx
        · exact h.lt x (mem_room hx)
        · obtain rfl := List.mem_singleton.1 hx
          exact he
      · unfold NdE
        dsimp only
        rw [List.map_append, List.nodup_append]
        refine ⟨r1, by simp, fun a ha b hb hab => ?_⟩
        obtain ⟨x, hx, rfl⟩ := List.mem_map.1 ha
        simp only [List.map_cons, List.map_nil, List.mem_singleton] at hb
        exact hno' x hx (hab.trans hb)
      · dsimp only
        rw [vf_app _ _ _ hno', r3]

/-- a power cut -/
theorem Inv.cut {st : St} {safe : Nat → List Int} {since : Nat → List (List Int)} (h : Inv st safe since) (bs : List Bool) (n : Nat) (hn : n < st.B) : medB (st.cut bs).med n = safe n ∨ medB (st.cut bs).med n ∈ since n := by
  show medB (cutL _ 0 st.cache st.med) n = _ ∨ medB (cutL _ 0 st.cache st.med) n ∈ _
  rcases vf_cut (fun j => bs[j]?.getD false) st.cache 0 st.med h.nd n with e | e
  · rw [e]; exact h.med n hn
  · rw [e, h.val n hn]; exact getLast_or n

/-- at the beginning -/
theorem inv_start (B C : Nat) : Inv { st0 B C with pend := false } (fun _ => zeros) (fun _ => []) where
  pend := rfl
  lt := fun e he => by cases he
  nd := List.nodup_nil
  len := Nat.zero_le _
  val := fun n _ => rfl
  med := fun n _ => .inl rfl
end Go.Proofs.YtdiameckiihppaaDoor
