/-
  What is proved here: rows of one or several cells, rows of bytes, appends, maps with keys, and what stays: what the texts on disks lean on.
  Conditions: none.
-/
import Derived.Test.YtdiameckiihppaaDoorQStore
import Derived.ArgAppend
import Derived.DeepKeys5
namespace Go.Proofs.YtdiameckiihppaaDoor
open Go.Proofs Go.RowKit

attribute [local go_sem] lt2 lt3 lt4 lt5

/-- a slice with elements xs of the type e, one cell each; its block has the cells up to the capacity -/
def RowAt (w : World) (e : TypeId) (A : Option Addr) (n c : Nat) (xs : List Value) : Prop :=
  xs.length = n ∧ n ≤ c ∧ (∀ u ∈ xs, u.oneCell' = true) ∧ ((A = none ∧ n = 0 ∧ c = 0) ∨ ∃ b off cs, A = some ⟨b, off, none⟩ ∧ w.heap[b]? = some (.cells cs e (0, 0)) ∧ off + c ≤ cs.size ∧ ∀ j, j < n → cs[off + j]? = xs[j]?)

theorem RowAt.keep {w w' : World} {e : TypeId} {A : Option Addr} {n c : Nat} {xs : List Value} (h : RowAt w e A n c xs) (hk : ∀ a, A = some a → w'.heap[a.block]? = w.heap[a.block]?) : RowAt w' e A n c xs := by
  obtain ⟨h1, h2, h3, h4⟩ := h
  refine ⟨h1, h2, h3, h4.imp id ?_⟩
  rintro ⟨b, off, cs, rfl, h5, h6, h7⟩
  exact ⟨b, off, cs, rfl, (hk _ rfl).trans h5, h6, h7⟩
theorem RowAt.nil (w : World) (e : TypeId) : RowAt w e none 0 0 [] := ⟨rfl, Nat.le_refl _, (fun _ h => nomatch h), .inl ⟨rfl, rfl, rfl⟩⟩
theorem RowAt.tail {w : World} {e : TypeId} {a : Addr} {n c : Nat} {x : Value} {xs : List Value} (h : RowAt w e (some a) (n + 1) c (x :: xs)) : RowAt w e (some (a.add 1)) n (c - 1) xs := by
  obtain ⟨h1, h2, h3, h4⟩ := h
  refine ⟨by simpa using h1, by omega, fun u hu => h3 u (List.mem_cons_of_mem _ hu), .inr ?_⟩
  rcases h4 with ⟨h4, _⟩ | ⟨b, off, cs, e, h5, h6, h7⟩
  · cases h4
  cases e
  refine ⟨b, off + 1, cs, by simp [Addr.add], h5, by omega, fun j hj => ?_⟩
  have := h7 (j + 1) (by omega)
  rw [show off + 1 + j = off + (j + 1) by omega, this]
  rfl

/-- what stands in a row's cells -/
theorem RowAt.cell {w : World} {e : TypeId} {a : Addr} {n c : Nat} {xs : List Value} (h : RowAt w e (some a) n c xs) {j : Nat} (hj : j < n) : w.cell? (a.add j) = xs[j]? := by
  obtain ⟨h1, h2, h3, ⟨h4, _⟩ | ⟨b, off, cs, e, h5, h6, h7⟩⟩ := h
  · cases h4
  cases e
  rw [show (⟨b, off, none⟩ : Addr).add j = ⟨b, off + j, none⟩ by unfold Addr.add; split <;> simp_all]
  exact (cell_of h5 (off + j)).trans (h7 j hj)

theorem RowAt.none1 {w : World} {e : TypeId} {a : Addr} {c : Nat} {x : Value} (h : RowAt w e (some a) 1 c [x]) : RowAt w e (some a) 0 (c - 1) [] := by
  obtain ⟨h1, h2, h3, ⟨h4, _⟩ | ⟨b, off, cs, e, h5, h6, h7⟩⟩ := h
  · cases h4
  cases e
  exact ⟨rfl, by omega, (fun _ h => nomatch h), .inr ⟨b, off, cs, rfl, h5, by omega, fun j hj => by omega⟩⟩
theorem setCells_heap {t : TypeId} {b : Nat} : ∀ (vs : List Value) (o : Nat) (w : World) (cs : Array Value), w.heap[b]? = some (.cells cs t (0, 0)) → o + vs.length ≤ cs.size →
    ∃ cs', (w.setCells b o vs).heap[b]? = some (.cells cs' t (0, 0)) ∧ cs'.size = cs.size ∧ (∀ j, j < vs.length → cs'[o + j]? = vs[j]?) ∧ (∀ j, j < o → cs'[j]? = cs[j]?) ∧ Wrote b w (w.setCells b o vs) := by
  intro vs
  induction vs with
  | nil => intro o w cs h _; exact ⟨cs, h, rfl, fun j hj => by simp at hj, fun _ _ => rfl, Wrote.refl b w⟩
  | cons v r ih =>
    intro o w cs h hl
    have hl' : o + 1 + r.length ≤ cs.size := by simp only [List.length_cons] at hl; omega
    obtain ⟨cs', h1, h2, h3, h4, h5⟩ := ih (o + 1) (w.setCell ⟨b, o, none⟩ v) (cs.setIfInBounds o v) (setCell_heap h o v) (by simpa using hl')
    refine ⟨cs', h1, by simpa using h2, fun j hj => ?_, fun j hj => ?_, ((Wrote.refl b w).setCell o v).trans h5⟩
    · rcases j with _ | j
      · rw [Nat.add_zero, h4 o (by omega), Array.getElem?_setIfInBounds_self_of_lt (by omega)]
        rfl
      · rw [show o + (j + 1) = o + 1 + j by omega, h3 j (by simpa using hj)]
        rfl
    · rw [h4 j (by omega), Array.getElem?_setIfInBounds_ne (by omega)]

/-- what append leaves: the old block is written, or there is a new one -/
def RowEff (A A' : Option Addr) (w w' : World) : Prop := (A' = A ∧ ∃ a, A = some a ∧ Wrote a.block w w') ∨ (w.grownBy w' none ∧ ∀ a, A' = some a → w.heap.size ≤ a.block)

theorem RowAt.append {P : Program} {w : World} {t e : TypeId} {i : TypeInfo} {z : Value} {bytes : Nat} (ht : P.underlying t = some (.slice e)) (hi : P.info? e = some i) (hz : i.zero = some z) (hs : i.size = 1) (hby : i.bytes = bytes) (hzs : z.cells.size = 1) {A : Option Addr} {n c : Nat} {xs : List Value} (h : RowAt w e A n c xs)
    (ad : Addr) (m c' : Nat) (news : List Value) (hl : news.length = m) (hnews : ∀ j u, news[j]? = some u → w.cell? (ad.add j) = some u) (h1 : ∀ u ∈ news, u.oneCell' = true) (b1 : n + m ≤ maxLen) (b2 : (n + m) * bytes ≤ 140737488355328) :
    ∃ A' c'' w', (Builtin.append_ #[t, t] t #[.slice A n c, .slice (some ad) m c']).run P w = .ok (.slice A' (n + m) c'') w' ∧ RowAt w' e A' (n + m) c'' (xs ++ news) ∧ RowEff A A' w w' := by
  obtain ⟨hx1, hx2, hx3, hx4⟩ := h
  have hone : ∀ u ∈ xs ++ news, u.oneCell' = true := fun u hu => (List.mem_append.1 hu).elim (hx3 u) (h1 u)
  have hlen : (xs ++ news).length = n + m := by rw [List.length_append, hx1, hl]
  have hgrown : ∀ v' w', w'.ownsRow w.heap.size e 1 v' (n + m) (xs ++ news) → w.grownBy w' none → ∃ A' c'', v' = .slice A' (n + m) c'' ∧ RowAt w' e A' (n + m) c'' (xs ++ news) ∧ RowEff A A' w w' := by
    intro v' w' ho hg
    obtain ⟨_, ⟨rfl, h0⟩ | ⟨g, cap, cur, rfl, hge, hh, hc, hcm, hsz, htk⟩⟩ := ho
    · refine ⟨none, 0, by rw [h0], ⟨hlen, by omega, hone, .inl ⟨rfl, h0, rfl⟩⟩, .inr ⟨hg, fun a h => nomatch h⟩⟩
    · refine ⟨_, cap, rfl, ⟨hlen, hc, hone, .inr ⟨g, 0, cur, rfl, hh, by omega, fun j hj => ?_⟩⟩, .inr ⟨hg, fun a h => by cases h; exact hge⟩⟩
      rw [← htk, List.getElem?_take, if_pos (by omega), Nat.zero_add]
      simp
  rcases hx4 with ⟨rfl, rfl, rfl⟩ | ⟨b, off, cs, rfl, hb, hsz, hcs⟩
  · obtain rfl : xs = [] := List.length_eq_zero_iff.1 hx1
    obtain ⟨v', w', hr, ho, hg, _⟩ := run_append_own (P := P) w w.heap.size t t e i z 1 bytes ht hi hz hs hby hzs (by omega) (.slice none 0 0) 0 [] (World.ownsRow_nil w _ e 1) ad m c' news (by rw [hl]; omega) hnews h1 b1 b2 (Nat.le_refl _)
    obtain ⟨A', c'', rfl, h2, h3⟩ := hgrown v' w' ho hg
    exact ⟨A', c'', w', hr, h2, h3⟩
  · by_cases hroom : n + m ≤ c
    · obtain ⟨cs', k1, k2, k3, k4, k5⟩ := setCells_heap news (off + n) w cs hb (by omega)
      have hr := run_append_room_cells (P := P) w t t e i ht hi b off n c ad m c' news (by rw [hl, hs]; omega) hnews h1 hroom
        (fun j hj => by rw [hs, Nat.mul_one, cell_of hb (off + n + j)]; rw [Array.getElem?_eq_getElem (by omega)]; rfl) (fun j hj => by rw [hs, Nat.mul_one]; exact frozen_of hb _)
      rw [hs, Nat.mul_one] at hr
      refine ⟨_, c, _, hr, ⟨hlen, hroom, hone, .inr ⟨b, off, cs', rfl, k1, by omega, fun j hj => ?_⟩⟩, .inl ⟨rfl, _, rfl, k5⟩⟩
      by_cases hj2 : j < n
      · rw [k4 _ (by omega), hcs j hj2, List.getElem?_append_left (by omega)]
      · rw [show off + j = off + n + (j - n) by omega, k3 _ (by omega), List.getElem?_append_right (by omega), hx1]
    · obtain ⟨v', w', hr, ho, hg⟩ := run_append_arg_grows (P := P) w t t e i z 1 bytes ht hi hz hs hby hzs (by omega) ⟨b, off, none⟩ n c xs (by rw [hx1]; omega) (fun j u hj => by
        have hjn : j < n := by have := (List.getElem?_eq_some_iff.1 hj).1; omega
        rw [show (⟨b, off, none⟩ : Addr).add j = ⟨b, off + j, none⟩ by unfold Addr.add; split <;> simp_all]
        exact (cell_of hb (off + j)).trans ((hcs j hjn).trans hj)) ad m c' news (by rw [hl]; omega) hnews (by omega) b1 b2
      obtain ⟨A', c'', rfl, h2, h3⟩ := hgrown v' w' ho hg
      exact ⟨A', c'', w', hr, h2, h3⟩
theorem RowEff.size {A A' : Option Addr} {w w' : World} (h : RowEff A A' w w') : w.heap.size ≤ w'.heap.size := by
  rcases h with ⟨_, a, _, hW⟩ | ⟨hg, _⟩
  · exact Nat.le_of_eq hW.size.symm
  · exact hg.size
theorem RowEff.ext {A A' : Option Addr} {w w' : World} (h : RowEff A A' w w') : w'.os = w.os ∧ w'.tape = w.tape ∧ w'.output = w.output := by
  rcases h with ⟨_, a, _, hW⟩ | ⟨hg, _⟩
  · exact ⟨hW.os, hW.tape, hW.output⟩
  · exact ⟨hg.os, hg.tape, hg.output⟩
theorem RowEff.other {A A' : Option Addr} {w w' : World} (h : RowEff A A' w w') {i : Nat} (hi : i < w.heap.size) (hne : ∀ a, A = some a → a.block ≠ i) : w'.heap[i]? = w.heap[i]? := by
  rcases h with ⟨_, a, e, hW⟩ | ⟨hg, _⟩
  · exact hW.other i (fun e' => hne a e e'.symm)
  · exact hg.block i hi (fun e => nomatch e)
theorem RowEff.heap {A A' : Option Addr} {w w' : World} (h : RowEff A A' w w') {i : Nat} {o : Obj} (hi : w.heap[i]? = some o) (hne : ∀ a, A = some a → a.block ≠ i) : w'.heap[i]? = some o :=
  (h.other (Array.getElem?_eq_some_iff.1 hi).1 hne).trans hi

theorem row_of_own {w : World} {base : Nat} {e : TypeId} {v : Value} {n : Nat} {xs : List Value} (h : w.ownsRow base e 1 v n xs) (h1 : ∀ u ∈ xs, u.oneCell' = true) : ∃ A c, v = .slice A n c ∧ RowAt w e A n c xs ∧ ∀ a, A = some a → base ≤ a.block := by
  obtain ⟨hl, ⟨rfl, h0⟩ | ⟨g, cap, cur, rfl, hge, hh, hc, hcm, hsz, htk⟩⟩ := h
  · exact ⟨none, 0, by rw [h0], ⟨by omega, by omega, h1, .inl ⟨rfl, h0, rfl⟩⟩, fun a h => nomatch h⟩
  · refine ⟨_, cap, rfl, ⟨by omega, hc, h1, .inr ⟨g, 0, cur, rfl, hh, by omega, fun j hj => ?_⟩⟩, fun a h => by cases h; exact hge⟩
    rw [← htk, List.getElem?_take, if_pos (by omega), Nat.zero_add]
    simp

/-- a row of bytes -/
def RowB (w : World) (A : Option Addr) (n c : Nat) (xs : List Int) : Prop := RowAt w 5 A n c (xs.map (Value.int .u8)) ∧ ∀ x ∈ xs, 0 ≤ x ∧ x ≤ 255
theorem RowB.u8 {w : World} {A : Option Addr} {n c : Nat} {xs : List Int} (h : RowB w A n c xs) : U8 w A n c xs := by
  obtain ⟨hr, h2⟩ := h
  have hr0 := hr
  obtain ⟨h1, h3, _, h4⟩ := hr
  refine ⟨by simpa using h1, h2, h3, h4.imp id ?_⟩
  rintro ⟨b, off, cs, rfl, _⟩
  refine ⟨_, rfl, fun j hj => ?_⟩
  rw [hr0.cell hj, List.getElem?_map]
  have : j < xs.length := by have := h1; simp at this; omega
  rw [List.getElem?_eq_getElem this]
  rfl

/-- what a clone leaves -/
def ClonedR (w : World) (xs : List Int) (e : Ending) (w' : World) : Prop :=
  Below w.heap.size w w' ∧ ∃ A' c', e = .returned (.slice A' xs.length c') ∧ RowAt w' 5 A' xs.length c' (xs.map (Value.int .u8)) ∧ ∀ a, A' = some a → w.heap.size ≤ a.block

set_option maxHeartbeats 2000000 in
theorem sclone_row (A : Option Addr) (n c : Nat) (xs : List Int) (w : World) (hx : U8 w A n c xs) (hn : n ≤ 65536) :
    Calls Tryd.prog 65 #[.slice A n c] w (ClonedR w xs) := by
  obtain ⟨i0, hi, hz0, hz1, hz2⟩ := info_parts info5
  obtain ⟨h1, h2, h3, ⟨rfl, rfl, rfl⟩ | ⟨a, rfl, h5⟩⟩ := hx
  · have hnil := fun (w : World) => Lib.run_eql_slice_nil (P := Tryd.prog) w 24 5 none 0 0 0 0 Tryd.underlying24
    go_enter Tryd.func65, Tryd.ntmps65
    go_wp2
    go_ret
    obtain rfl : xs = [] := List.length_eq_zero_iff.1 h1
    exact ⟨Below.refl _ _, none, 0, rfl, RowAt.nil _ _, fun _ h => nomatch h⟩
  have hnil := fun (w : World) => Lib.run_eql_slice_nil (P := Tryd.prog) w 24 5 (some a) n c 0 0 Tryd.underlying24
  go_enter Tryd.func65, Tryd.ntmps65
  go_wp2_with (at_builtin; refine wpList_append_own _ rfl (.tmp 5) (.tmp 6) 24 rfl w.heap.size 5 i0 (.int .u8 0) 1 1 Tryd.underlying24 hi hz0 hz1 hz2 rfl (by decide) _ 0 [] rfl ?own a n c (xs.map (Value.int .u8)) rfl ?c1 ?c2 ?c3 ?c4 ?c5 ?c6 ?_)
  case own => exact World.ownsRow_made w #[] 0 (Nat.le_refl _) (by decide) rfl
  case c1 => simp [h1]
  case c2 =>
    intro j u hj
    rw [List.getElem?_map, Option.map_eq_some_iff] at hj
    obtain ⟨x, hx, rfl⟩ := hj
    have hjn : j < n := by rw [← h1]; exact (List.getElem?_eq_some_iff.1 hx).1
    have hcx := h5 j hjn
    rw [hx] at hcx
    rw [World.cell?_alloc_lt _ _ _ (World.block_lt_of_cell? _ _ hcx)]
    exact hcx
  case c3 =>
    intro u hu
    obtain ⟨x, _, rfl⟩ := List.mem_map.1 hu
    rfl
  case c4 => unfold maxLen; omega
  case c5 => omega
  case c6 => simp
  intro v' w1 hown hgrow hnn
  have hb1 : Below w.heap.size w w1 := ((Below.refl _ _).alloc (Nat.le_refl _) _).grown hgrow (by simp) (fun k hk => by simp [Value.ownBlock] at hk; omega)
  have hv : v' ≠ .slice none 0 0 := hnn
  have hl : (0 : Nat) + n = n := by omega
  obtain ⟨A', c', rfl, hR, hg⟩ := row_of_own (by simpa [h1] using hown) (fun u hu => by
    obtain ⟨x, _, rfl⟩ := List.mem_map.1 hu
    rfl)
  clear hown hgrow hnn hv hnil
  go_wp2
  go_ret
  subst h1
  exact ⟨hb1, A', c', rfl, hR, hg⟩

/-- append of nothing -/
theorem append_none {P : Program} {w : World} {t e : TypeId} {i : TypeInfo} (ht : P.underlying t = some (.slice e)) (hi : P.info? e = some i) (A : Option Addr) (n c : Nat) (hn : n ≤ c) :
    (Builtin.append_ #[t, t] t #[.slice A n c, .slice none 0 0]).run P w = .ok (.slice A n c) w := by
  cases A <;> simp [Builtin.append_, run_underlying ht, sizeOf, typeInfo, hi, Builtin.lenOf, hn, Builtin.firstCells, storeCells]

/-- bytes appended to a row of bytes -/
theorem rowb_append {w : World} {A B : Option Addr} {n c m d : Nat} {xs ys : List Int} (hR : RowB w A n c xs) (hU : U8 w B m d ys) (hs : n + m ≤ 65536) :
    ∃ A' c' w', (Builtin.append_ #[24, 24] 24 #[.slice A n c, .slice B m d]).run Tryd.prog w = .ok (.slice A' (n + m) c') w' ∧ RowB w' A' (n + m) c' (xs ++ ys) ∧ (w' = w ∧ A' = A ∨ RowEff A A' w w') := by
  obtain ⟨i0, hi, hz0, hz1, hz2⟩ := info_parts info5
  obtain ⟨u1, u2, u3, ⟨rfl, rfl, rfl⟩ | ⟨ad, rfl, u4⟩⟩ := hU
  · obtain rfl : ys = [] := List.length_eq_zero_iff.1 u1
    exact ⟨A, c, w, append_none Tryd.underlying24 hi A n c hR.1.2.1, by simpa using hR, .inl ⟨rfl, rfl⟩⟩
  · obtain ⟨A', c', w', hr, h2, h3⟩ := RowAt.append (P := Tryd.prog) (t := 24) Tryd.underlying24 hi hz0 hz1 hz2 rfl hR.1 ad m d (ys.map (Value.int .u8)) (by simpa using u1) (fun j u hj => by
      rw [List.getElem?_map, Option.map_eq_some_iff] at hj
      obtain ⟨x, hx, rfl⟩ := hj
      have hjn : j < m := by rw [← u1]; exact (List.getElem?_eq_some_iff.1 hx).1
      have := u4 j hjn
      rw [hx] at this
      exact this) (fun u hu => by obtain ⟨x, _, rfl⟩ := List.mem_map.1 hu; rfl) (by unfold maxLen; omega) (by omega)
    refine ⟨A', c', w', hr, ⟨by rw [List.map_append]; exact h2, fun x hx => (List.mem_append.1 hx).elim (hR.2 x) (u2 x)⟩, .inr h3⟩

/-- blocks of L stand as they were -/
structure Kp (L : Nat → Prop) (w w' : World) : Prop where
  os : w'.os = w.os
  tape : w'.tape = w.tape
  output : w'.output = w.output
  size : w.heap.size ≤ w'.heap.size
  block : ∀ i, i < w.heap.size → L i → w'.heap[i]? = w.heap[i]?
theorem Kp.refl (L : Nat → Prop) (w : World) : Kp L w w := ⟨rfl, rfl, rfl, Nat.le_refl _, fun _ _ _ => rfl⟩
theorem Kp.trans {L : Nat → Prop} {a b c : World} (h : Kp L a b) (k : Kp L b c) : Kp L a c :=
  ⟨k.os.trans h.os, k.tape.trans h.tape, k.output.trans h.output, Nat.le_trans h.size k.size, fun i hi hl => (k.block i (Nat.lt_of_lt_of_le hi h.size) hl).trans (h.block i hi hl)⟩
theorem Kp.below {L : Nat → Prop} {w w' : World} (h : Below w.heap.size w w') : Kp L w w' := ⟨h.os, h.tape, h.output, h.size, fun i hi _ => h.block i hi⟩
theorem Kp.wrote {L : Nat → Prop} {w w' : World} {g : Nat} (h : Wrote g w w') (hg : ¬ L g) : Kp L w w' := ⟨h.os, h.tape, h.output, Nat.le_of_eq h.size.symm, fun i _ hl => h.other i fun e => hg (e ▸ hl)⟩
theorem Kp.sub {L L' : Nat → Prop} {w w' : World} (h : Kp L w w') (hs : ∀ i, L' i → L i) : Kp L' w w' := ⟨h.os, h.tape, h.output, h.size, fun i hi hl => h.block i hi (hs i hl)⟩

theorem RowB.keep {w w' : World} {A : Option Addr} {n c : Nat} {xs : List Int} (h : RowB w A n c xs) (hk : ∀ a, A = some a → w'.heap[a.block]? = w.heap[a.block]?) : RowB w' A n c xs := ⟨h.1.keep hk, h.2⟩
theorem RowB.lt {w : World} {A : Option Addr} {n c : Nat} {xs : List Int} (h : RowB w A n c xs) : ∀ a, A = some a → a.block < w.heap.size := by
  intro a e
  obtain ⟨_, _, _, ⟨h4, _⟩ | ⟨b, off, cs, e2, h5, _⟩⟩ := h.1
  · rw [h4] at e; cases e
  · rw [e2] at e; cases e
    exact (Array.getElem?_eq_some_iff.1 h5).1

/-- a slice with n elements of the type e, sz cells each: the cells one behind the other -/
def RowF (w : World) (e : TypeId) (sz : Nat) (A : Option Addr) (n c : Nat) (xs : List Value) : Prop :=
  xs.length = n * sz ∧ n ≤ c ∧ (∀ u ∈ xs, u.oneCell' = true) ∧ ((A = none ∧ n = 0 ∧ c = 0) ∨ ∃ b off cs, A = some ⟨b, off, none⟩ ∧ w.heap[b]? = some (.cells cs e (0, 0)) ∧ off + c * sz ≤ cs.size ∧ ∀ j, j < n * sz → cs[off + j]? = xs[j]?)

theorem RowF.keep {w w' : World} {e : TypeId} {sz : Nat} {A : Option Addr} {n c : Nat} {xs : List Value} (h : RowF w e sz A n c xs) (hk : ∀ a, A = some a → w'.heap[a.block]? = w.heap[a.block]?) : RowF w' e sz A n c xs := by
  obtain ⟨h1, h2, h3, h4⟩ := h
  refine ⟨h1, h2, h3, h4.imp id ?_⟩
  rintro ⟨b, off, cs, rfl, h5, h6, h7⟩
  exact ⟨b, off, cs, rfl, (hk _ rfl).trans h5, h6, h7⟩
theorem RowF.nil (w : World) (e : TypeId) (sz : Nat) : RowF w e sz none 0 0 [] := ⟨by simp, Nat.le_refl _, (fun _ h => nomatch h), .inl ⟨rfl, rfl, rfl⟩⟩
theorem RowF.cell {w : World} {e : TypeId} {sz : Nat} {a : Addr} {n c : Nat} {xs : List Value} (h : RowF w e sz (some a) n c xs) {j : Nat} (hj : j < n * sz) : w.cell? (a.add j) = xs[j]? := by
  obtain ⟨h1, h2, h3, ⟨h4, _⟩ | ⟨b, off, cs, e, h5, h6, h7⟩⟩ := h
  · cases h4
  cases e
  rw [show (⟨b, off, none⟩ : Addr).add j = ⟨b, off + j, none⟩ by unfold Addr.add; split <;> simp_all]
  exact (cell_of h5 (off + j)).trans (h7 j hj)

theorem RowF.append {P : Program} {w : World} {t e : TypeId} {i : TypeInfo} {z : Value} {sz bytes : Nat} (ht : P.underlying t = some (.slice e)) (hi : P.info? e = some i) (hz : i.zero = some z) (hs : i.size = sz) (hby : i.bytes = bytes) (hzs : z.cells.size = sz) (hsz0 : 0 < sz) {A : Option Addr} {n c : Nat} {xs : List Value} (h : RowF w e sz A n c xs)
    (ad : Addr) (m c' : Nat) (news : List Value) (hl : news.length = m * sz) (hnews : ∀ j u, news[j]? = some u → w.cell? (ad.add j) = some u) (h1 : ∀ u ∈ news, u.oneCell' = true) (b1 : n + m ≤ maxLen) (b2 : (n + m) * bytes ≤ 140737488355328) :
    ∃ A' c'' w', (Builtin.append_ #[t, t] t #[.slice A n c, .slice (some ad) m c']).run P w = .ok (.slice A' (n + m) c'') w' ∧ RowF w' e sz A' (n + m) c'' (xs ++ news) ∧ RowEff A A' w w' := by
  obtain ⟨hx1, hx2, hx3, hx4⟩ := h
  have hone : ∀ u ∈ xs ++ news, u.oneCell' = true := fun u hu => (List.mem_append.1 hu).elim (hx3 u) (h1 u)
  have hnm : (n + m) * sz = n * sz + m * sz := Nat.add_mul n m sz
  have hlen : (xs ++ news).length = (n + m) * sz := by rw [List.length_append, hx1, hl, hnm]
  have hgrown : ∀ v' w', w'.ownsRow w.heap.size e sz v' (n + m) (xs ++ news) → w.grownBy w' none → ∃ A' c'', v' = .slice A' (n + m) c'' ∧ RowF w' e sz A' (n + m) c'' (xs ++ news) ∧ RowEff A A' w w' := by
    intro v' w' ho hg
    obtain ⟨_, ⟨rfl, h0⟩ | ⟨g, cap, cur, rfl, hge, hh, hc, hcm, hsz, htk⟩⟩ := ho
    · refine ⟨none, 0, by rw [h0], ⟨hlen, by omega, hone, .inl ⟨rfl, h0, rfl⟩⟩, .inr ⟨hg, fun a h => nomatch h⟩⟩
    · refine ⟨_, cap, rfl, ⟨hlen, hc, hone, .inr ⟨g, 0, cur, rfl, hh, by omega, fun j hj => ?_⟩⟩, .inr ⟨hg, fun a h => by cases h; exact hge⟩⟩
      rw [← htk, List.getElem?_take, if_pos (by omega), Nat.zero_add]
      simp
  rcases hx4 with ⟨rfl, rfl, rfl⟩ | ⟨b, off, cs, rfl, hb, hsz, hcs⟩
  · obtain rfl : xs = [] := List.length_eq_zero_iff.1 (by simpa using hx1)
    obtain ⟨v', w', hr, ho, hg, _⟩ := run_append_own (P := P) w w.heap.size t t e i z sz bytes ht hi hz hs hby hzs hsz0 (.slice none 0 0) 0 [] (World.ownsRow_nil w _ e sz) ad m c' news hl hnews h1 b1 b2 (Nat.le_refl _)
    obtain ⟨A', c'', rfl, h2, h3⟩ := hgrown v' w' ho hg
    exact ⟨A', c'', w', hr, h2, h3⟩
  · by_cases hroom : n + m ≤ c
    · have hcm : n * sz + m * sz ≤ c * sz := by rw [← hnm]; exact Nat.mul_le_mul_right sz hroom
      obtain ⟨cs', k1, k2, k3, k4, k5⟩ := setCells_heap news (off + n * sz) w cs hb (by omega)
      have hr := run_append_room_cells (P := P) w t t e i ht hi b off n c ad m c' news (by rw [hl, hs]) hnews h1 hroom
        (fun j hj => by rw [hs, cell_of hb (off + n * sz + j)]; rw [Array.getElem?_eq_getElem (by omega)]; rfl) (fun j hj => by rw [hs]; exact frozen_of hb _)
      rw [hs] at hr
      refine ⟨_, c, _, hr, ⟨hlen, hroom, hone, .inr ⟨b, off, cs', rfl, k1, by omega, fun j hj => ?_⟩⟩, .inl ⟨rfl, _, rfl, k5⟩⟩
      by_cases hj2 : j < n * sz
      · rw [k4 _ (by omega), hcs j hj2, List.getElem?_append_left (by omega)]
      · rw [show off + j = off + n * sz + (j - n * sz) by omega, k3 _ (by omega), List.getElem?_append_right (by omega), hx1]
    · obtain ⟨v', w', hr, ho, hg⟩ := run_append_arg_grows (P := P) w t t e i z sz bytes ht hi hz hs hby hzs hsz0 ⟨b, off, none⟩ n c xs hx1 (fun j u hj => by
        have hjn : j < n * sz := by rw [← hx1]; exact (List.getElem?_eq_some_iff.1 hj).1
        rw [show (⟨b, off, none⟩ : Addr).add j = ⟨b, off + j, none⟩ by unfold Addr.add; split <;> simp_all]
        exact (cell_of hb (off + j)).trans ((hcs j hjn).trans hj)) ad m c' news hl hnews (by omega) b1 b2
      obtain ⟨A', c'', rfl, h2, h3⟩ := hgrown v' w' ho hg
      exact ⟨A', c'', w', hr, h2, h3⟩
theorem map_miss {t k e : TypeId} (K : WideMaps.KeyLaw Tryd.prog k) (ht : Tryd.prog.underlying t = some (.map k e)) (hz : ∀ w, (zeroValue e).run Tryd.prog w = .ok (.pointer none) w) {b clock : Nat} {es : Array MapEntry} {w : World} (hb : w.heap[b]? = some (.map es clock)) {key : Value} {kl : Lit} (hkey : keyOf Tryd.prog k key = some kl)
    (hes : ∀ x ∈ es.toList, (∃ l, keyOf Tryd.prog k x.key = some l) ∧ x.key ≠ key) :
    (Instr.lookup t (.map (some b)) key false).run Tryd.prog w = .ok (.pointer none) w := by
  have hm := MapKept.run_getObj_map (P := Tryd.prog) hb
  have hc := K.check w es.isEmpty hkey
  rcases K.find w hkey es.toList (fun x hx => (hes x hx).1) with ⟨h1, _⟩ | ⟨j, x, h1, h2, h3⟩
  · simp [Instr.lookup, run_underlying ht, hm, hc, h1, hz w]
  · exact absurd h3 (hes x (List.mem_of_getElem? h2)).2

theorem laid_out : laidOutB Tryd.prog = true := by kernel_rfl
theorem map_get {t k e : TypeId} (K : WideMaps.KeyLaw Tryd.prog k) (ht : Tryd.prog.underlying t = some (.map k e)) {b clock : Nat} {es : Array MapEntry} {w : World} (hb : w.heap[b]? = some (.map es clock)) {key v : Value} {kl : Lit} (hkey : keyOf Tryd.prog k key = some kl)
    (hes : ∀ x ∈ es.toList, ∃ l, keyOf Tryd.prog k x.key = some l) (hin : ∃ x ∈ es.toList, x.key = key) (hv : ∀ x ∈ es.toList, x.key = key → x.val = v) :
    (Instr.lookup t (.map (some b)) key false).run Tryd.prog w = .ok v w := by
  have hm := MapKept.run_getObj_map (P := Tryd.prog) hb
  have hc := K.check w es.isEmpty hkey
  rcases K.find w hkey es.toList hes with ⟨_, h2⟩ | ⟨j, x, h1, h2, h3⟩
  · obtain ⟨x, hx, e⟩ := hin
    exact absurd e (h2 x hx)
  · have hx := hv x (List.mem_of_getElem? h2) h3
    subst hx
    simp [Instr.lookup, run_underlying ht, hm, hc, h1]

theorem map_put {t k e : TypeId} (K : WideMaps.KeyLaw Tryd.prog k) (ht : Tryd.prog.underlying t = some (.map k e)) {b clock : Nat} {es : Array MapEntry} {w : World} (hb : w.heap[b]? = some (.map es clock)) {key : Value} {kl : Lit} (val : Value) (hkey : keyOf Tryd.prog k key = some kl)
    (hes : ∀ x ∈ es.toList, (∃ l, keyOf Tryd.prog k x.key = some l) ∧ x.key ≠ key) :
    ∃ w', (Instr.mapUpdate t (.map (some b)) key val).run Tryd.prog w = .ok () w' ∧ Wrote b w w' ∧ w'.heap[b]? = some (.map (es.push ⟨key, val, clock⟩) (clock + 1)) := by
  have hm := MapKept.run_getObj_map (P := Tryd.prog) hb
  have hc := K.check w false hkey
  have hlt := (Array.getElem?_eq_some_iff.1 hb).1
  refine ⟨{ w with heap := w.heap.setIfInBounds b (.map (es.push ⟨key, val, clock⟩) (clock + 1)) }, ?_, ⟨rfl, rfl, rfl, by simp, fun i hi => by simp [Ne.symm hi]⟩, by simp [hlt]⟩
  rcases K.find w hkey es.toList (fun x hx => (hes x hx).1) with ⟨h1, _⟩ | ⟨j, x, h1, h2, h3⟩
  · simp [Instr.mapUpdate, run_underlying ht, hm, hc, h1, MapKept.run_setObj_map _ hb]
  · exact absurd h3 (hes x (List.mem_of_getElem? h2)).2
end Go.Proofs.YtdiameckiihppaaDoor
