/-
  What is proved here: keep: a block is kept in the cache, or goes to the medium.
  Conditions: what the disk's blocks hold.
-/
import Derived.Test.YtdiameckiihppaaDoorSLand
namespace Go.Proofs.YtdiameckiihppaaDoor
open Go.Proofs Go.RowKit

attribute [local go_sem] lt2 lt3 lt4 lt5
attribute [-go_sem] Builtin.append_

/-- room is made -/
def St.room (st : St) : St := if st.C ≤ st.cache.length then (match st.cache with | x :: _ => st.land 0 x | [] => st) else st
def St.keep (st : St) (e : Ent) : St :=
  match idxE e.n st.cache with
  | some i => { st with cache := st.cache.set i e }
  | none => if st.C = 0 then { st with med := putM st.med e.n e } else { st.room with cache := st.room.cache ++ [e] }

def KeepEnd (L : Nat → Prop) (d : Nat) (st : St) (n : Nat) (xs : List Int) (w : World) (e : Ending) (w' : World) : Prop := e = .returned (.tuple #[]) ∧ ∃ A c, ChgTo L d (st.keep ⟨n, A, c, xs⟩) w w'

theorem flat_set : ∀ (es : List Ent) (i : Nat) (e x : Ent), es[i]? = some x → x.n = e.n → (flat es).set (i * 2 + 1) e.val = flat (es.set i e)
  | [], i, e, x, h, _ => by simp at h
  | y :: es, 0, e, x, h, hn => by
    simp only [List.getElem?_cons_zero, Option.some.injEq] at h
    subst h
    rw [List.set_cons_zero, flat_cons, flat_cons, show 0 * 2 + 1 = 0 + 1 by omega, List.set_cons_succ, List.set_cons_zero, hn]
    rfl
  | y :: es, i + 1, e, x, h, hn => by
    rw [List.set_cons_succ, flat_cons, flat_cons, show (i + 1) * 2 + 1 = (i * 2 + 1) + 1 + 1 by omega, List.set_cons_succ, List.set_cons_succ, flat_set es i e x (by simpa using h) hn]

theorem RowF.setCell {w : World} {e : TypeId} {sz b off n c : Nat} {xs : List Value} (h : RowF w e sz (some ⟨b, off, none⟩) n c xs) {j : Nat} (hj : j < n * sz) {v : Value} (hv : v.oneCell' = true) : RowF (w.setCell ⟨b, off + j, none⟩ v) e sz (some ⟨b, off, none⟩) n c (xs.set j v) := by
  obtain ⟨h1, h2, h3, ⟨h4, _⟩ | ⟨b', off', cs, e0, hb, hsz, hcs⟩⟩ := h
  · cases h4
  cases e0
  have hm : n * sz ≤ c * sz := Nat.mul_le_mul_right sz h2
  refine ⟨by rw [List.length_set]; exact h1, h2, fun u hu => ?_, .inr ⟨b, off, _, rfl, setCell_heap hb (off + j) v, by simpa using hsz, fun k hk => ?_⟩⟩
  · rcases List.mem_or_eq_of_mem_set hu with hu | rfl
    · exact h3 u hu
    · exact hv
  · by_cases hkj : k = j
    · subst hkj
      rw [Array.getElem?_setIfInBounds_self_of_lt (by omega), List.getElem?_set_self (by omega)]
    · rw [Array.getElem?_setIfInBounds_ne (by omega), List.getElem?_set_ne (by omega)]
      exact hcs k hk

theorem idx_some {n : Nat} {es : List Ent} {i : Nat} (h : idxE n es = some i) : ∃ x, es[i]? = some x ∧ x.n = n := by
  unfold idxE at h
  rw [List.findIdx?_eq_some_iff_getElem] at h
  obtain ⟨h1, h2, _⟩ := h
  exact ⟨_, List.getElem?_eq_getElem h1, by simpa using h2⟩

/-- the bytes of a clone -/
theorem sclone_b (A : Option Addr) (c : Nat) (xs : List Int) (w : World) (hx : U8 w A 64 c xs) :
    Calls Tryd.prog 65 #[.slice A 64 c] w fun e w' => Below w.heap.size w w' ∧ ∃ A' c', e = .returned (.slice A' 64 c') ∧ RowB w' A' 64 c' xs ∧ ∀ a, A' = some a → w.heap.size ≤ a.block := by
  refine (sclone_row A 64 c xs w hx (by omega)).mono ?_
  rintro e w' ⟨hb, A', c', rfl, hR, hf⟩
  rw [hx.1] at hR ⊢
  exact ⟨hb, A', c', rfl, ⟨hR, hx.2.1⟩, hf⟩

set_option maxHeartbeats 4000000 in
set_option maxRecDepth 100000 in
theorem keep_ret (L : Nat → Prop) (d : Nat) (st : St) (n : Nat) (B : Option Addr) (cb : Nat) (xs : List Int) (w : World) (h : DiskAt L d st w) (hU : U8 w B 64 cb xs) :
    Calls Tryd.prog 55 #[.pointer (some ⟨d, 0, none⟩), .int .i64 n, .slice B 64 cb] w (KeepEnd L d st n xs w) := by
  obtain ⟨v4, v5, v6, mb, A, c, s1, s2, s3, hI⟩ := h
  have hb0 : ∀ o, Below w.heap.size w (w.alloc o) := fun o => (Below.refl w.heap.size w).alloc (Nat.le_refl _) o
  have HI := Lib.hid hI
  have hcl := fun o => sclone_b B cb xs (w.alloc o) (hU.alloc o)
  clear hU hI
  go_enter Tryd.func55, Tryd.ntmps55
  go_wp2_with fail
  refine (hcl _).mono ?_
  rintro e w1 ⟨hb1, A1, c1, rfl, hR1, hf1⟩
  have hg1 : w1.cell? ⟨w.heap.size, 0, none⟩ = some (.int .i64 n) := by
    rw [hb1.cell (by simp)]
    exact cell_of (heap_alloc_new w _) 0
  have hb1' : Below w.heap.size w w1 := (hb0 _).trans (hb1.mono (by simp))
  have hI1 := HI.out.below hb1'
  have x9 : w1.cell? ⟨d, 9, none⟩ = some (.slice A st.cache.length c) := cell_of hI1.disk 9
  have hidx := idx_keep w.heap.size st.cache.length A c st.cache n w1 hg1 hI1.row rfl (by have := hI1.len; omega)
  have hs1 : w.heap.size + 1 ≤ w1.heap.size := by have := hb1.size; simpa using this
  have H1 := Lib.hid (⟨hb1', hR1, hf1, hg1, hI1, hs1⟩ : _ ∧ _ ∧ _ ∧ _ ∧ _ ∧ _)
  clear hb1 hb1' hR1 hf1 hg1 hI1 hb0 hcl hs1
  go_wp2_with fail
  refine hidx.mono ?_
  rintro e w2 ⟨rfl, hb2⟩
  have hI2 := H1.out.2.2.2.2.1.below hb2
  have hR2 : RowB w2 A1 64 c1 xs := H1.out.2.1.keep fun a ea => hb2.block _ (H1.out.2.1.lt a ea)
  have hg2 : w2.cell? ⟨w.heap.size, 0, none⟩ = some (.int .i64 n) := (hb2.cell (by have := H1.out.2.2.2.2.2; exact this)).trans H1.out.2.2.2.1
  have hw2 : Below w.heap.size w w2 := H1.out.1.trans (hb2.mono H1.out.1.size)
  have hA1 : ∀ a, A1 = some a → w.heap.size + 1 ≤ a.block ∧ a.block < w2.heap.size := fun a ea => ⟨by simpa using H1.out.2.2.1 a ea, hR2.lt a ea⟩
  have hs2 : w.heap.size < w2.heap.size := Nat.lt_of_lt_of_le H1.out.2.2.2.2.2 hb2.size
  clear hidx x9
  have H2 := Lib.hid (⟨hI2, hR2, hg2, hw2, hA1, hs2⟩ : _ ∧ _ ∧ _ ∧ _ ∧ _ ∧ _)
  clear hI2 hR2 hg2 hw2 hA1 hs2 hb2 H1
  cases hie : idxE n st.cache with
  | some i =>
    obtain ⟨x, hx, hxn⟩ := idx_some hie
    have hil : i < st.cache.length := (List.getElem?_eq_some_iff.1 hx).1
    have hii : idxI n st.cache = (i : Int) := by unfold idxI; rw [hie]
    rw [hii]
    obtain ⟨hI2, hR2, hg2, hw2, hA1, hs2⟩ := H2.out
    obtain ⟨hr1, hkc, hr3, ⟨_, h0, _⟩ | ⟨b, off, cs, rfl, hbb, hsz, hcs⟩⟩ := id hI2.row
    · omega
    have y9 : w2.cell? ⟨d, 9, none⟩ = some (.slice (some ⟨b, off, none⟩) st.cache.length c) := cell_of hI2.disk 9
    have y1 : w2.cell? ⟨b, off + i * 2 + 1, none⟩ = some (.slice x.A 64 x.c) := (cell_of hbb _).trans ((hcs _ (by omega)).trans (flat_at _ i x hx).2)
    have f1 := frozen_of hbb (off + i * 2 + 1)
    have q1 : (i : Int) < (st.cache.length : Int) := by omega
    have q2 : (i : Int) ≤ (c : Int) := by omega
    have HX := Lib.hid (⟨hie, hx, hxn, hil⟩ : _ ∧ _ ∧ _ ∧ _)
    clear hie hx hxn hil hii hI2 hR2 hg2 hw2 hA1 hs2 hr1 hkc hr3 hbb hsz hcs
    go_wp2_with fail
    go_end0
    obtain ⟨hie, hx, hxn, hil⟩ := HX.out
    obtain ⟨hI2, hR2, hg2, hw2, hA1, hs2⟩ := H2.out
    refine ⟨rfl, A1, c1, ?_⟩
    have hK : st.keep ⟨n, A1, c1, xs⟩ = { st with cache := st.cache.set i ⟨n, A1, c1, xs⟩ } := by unfold St.keep; rw [hie]
    rw [hK]
    have hrow := hI2.row.setCell (j := i * 2 + 1) (by omega) (v := .slice A1 64 c1) rfl
    rw [show off + (i * 2 + 1) = off + i * 2 + 1 by omega, show Value.slice A1 64 c1 = (⟨n, A1, c1, xs⟩ : Ent).val from rfl, flat_set st.cache i _ x hx hxn] at hrow
    have hW := (Wrote.refl b w2).setCell (off + i * 2 + 1) (.slice A1 64 c1)
    obtain ⟨n1, n2⟩ := hI2.ne2 _ rfl
    have n3 := hI2.ne3 hR2
    have hu := hI2.upd (w' := w2.setCell ⟨b, off + i * 2 + 1, none⟩ (.slice A1 64 c1)) (A' := some ⟨b, off, none⟩) (c' := c) (t1 := s1) (t2 := s2) (t3 := s3) (st' := { st with cache := st.cache.set i ⟨n, A1, c1, xs⟩ })
      ⟨hW.os, hW.tape, hW.output⟩ (Nat.le_of_eq hW.size.symm) (fun j _ _ _ j3 => hW.other j (j3 _ rfl))
      (by dsimp only; rw [List.length_set]; exact (hW.other d (fun e => n1 e.symm)).trans hI2.disk)
      (hI2.med.keep (hW.other mb (fun e => n2 e.symm)))
      (by dsimp only; rw [List.length_set]; exact hrow)
      (fun e he => by
        rcases he with he | he
        · rcases List.mem_or_eq_of_mem_set he with he | rfl
          · exact .inl (.inl he)
          · refine .inr ⟨hR2.keep fun a ea => hW.other _ ((n3 a ea).2.2 _ rfl), fun a ea hl => ?_⟩
            have := HI.out.lt _ hl
            have := (hA1 a ea).1
            omega
        · exact .inl (.inr he))
      hI2.nr (by have := hI2.len; dsimp only; rw [List.length_set]; exact this)
    exact ⟨⟨_, _, _, _, _, _, _, _, _, hu.1⟩, (Kp.below hw2).trans hu.2⟩
  | none =>
    have hii : idxI n st.cache = (-1 : Int) := by unfold idxI; rw [hie]
    rw [hii]
    obtain ⟨hI2, hR2, hg2, hw2, hA1, hs2⟩ := H2.out
    have hA1n : ∀ a, A1 = some a → ¬ L a.block := fun a ea hl => by
      have := HI.out.lt _ hl
      have := (hA1 a ea).1
      omega
    by_cases hC : st.C = 0
    · have x2 : w2.cell? ⟨d, 2, none⟩ = some (.int .i64 0) := by rw [cell_of hI2.disk 2]; show some (Value.int .i64 (st.C : Int)) = _; rw [hC]; rfl
      have x8 : w2.cell? ⟨d, 8, none⟩ = some (.map (some mb)) := cell_of hI2.disk 8
      have HX := Lib.hid (⟨hie, hC, hA1n⟩ : _ ∧ _ ∧ _)
      have g2 := hg2
      clear hie hii hI2 hR2 hg2 hw2 hA1 hs2 hC hA1n
      go_upto_region 6 with fail
      refine region_last (by kernel_rfl) rfl rfl (by kernel_rfl) (by kernel_rfl) (by kernel_rfl) (by kernel_rfl) ?_
      dsimp only [List.dropLast, List.getLast?, List.getLast]
      repeat (go_big_quiet_step (fail))
      refine wpQuiet_nil ?_
      rintro _ ⟨nq, rfl⟩
      obtain ⟨hI2, hR2, hg2, hw2, hA1, hs2⟩ := H2.out
      have hM0 : MedAt (w2.drewN nq) mb st.med := hI2.med
      obtain ⟨w3, hput, hW3', hM3⟩ := med_put hM0 n ⟨n, A1, c1, xs⟩
      have hW3 : Wrote mb w2 w3 := ⟨hW3'.os, hW3'.tape, hW3'.output, hW3'.size, hW3'.other⟩
      have HM := Lib.hid (⟨hW3, hM3⟩ : _ ∧ _)
      unfold Ent.val at hput
      refine op_any (n := .skip) (w' := w3) (by unfold execOp; simp [go_sem, hput]) ?_
      rw [Oper.upon_skip]
      clear hI2 hR2 hg2 hw2 hA1 hs2 hM0 hput hW3' hM3 hW3 x2 x8 g2
      rename_i K hK
      refine hK _ _ ?_
      clear hK K
      dsimp only [Act.put]
      go_wp2_with fail
      go_end0
      obtain ⟨hI2, hR2, hg2, hw2, hA1, hs2⟩ := H2.out
      obtain ⟨hW3, hM3⟩ := HM.out
      obtain ⟨hie, hC, hA1n⟩ := HX.out
      refine ⟨rfl, A1, c1, ?_⟩
      have hK : st.keep ⟨n, A1, c1, xs⟩ = { st with med := putM st.med n ⟨n, A1, c1, xs⟩ } := by unfold St.keep; rw [hie]; dsimp only; rw [if_pos hC]
      rw [hK]
      have n1 := hI2.ne1
      have n2 := hI2.ne2
      have n3 := hI2.ne3 hR2
      have hu := hI2.upd (w' := w3) (A' := A) (c' := c) (t1 := s1) (t2 := s2) (t3 := s3) (st' := { st with med := putM st.med n ⟨n, A1, c1, xs⟩ })
        ⟨hW3.os, hW3.tape, hW3.output⟩ (Nat.le_of_eq hW3.size.symm) (fun j _ _ j2 _ => hW3.other j j2)
        ((hW3.other d n1).trans hI2.disk) hM3 (hI2.row.keep fun a ea => hW3.other _ (n2 a ea).2)
        (fun e he => by
          rcases he with he | ⟨m, he⟩
          · exact .inl (.inl he)
          · dsimp only [putM] at he
            split at he
            · injection he with he
              subst he
              exact .inr ⟨hR2.keep fun a ea => hW3.other _ (n3 a ea).2.1, hA1n⟩
            · exact .inl (.inr ⟨m, he⟩))
        hI2.nr hI2.len
      exact ⟨⟨_, _, _, _, _, _, _, _, _, hu.1⟩, (Kp.below hw2).trans hu.2⟩
    · have x2 : w2.cell? ⟨d, 2, none⟩ = some (.int .i64 st.C) := cell_of hI2.disk 2
      have x9 : w2.cell? ⟨d, 9, none⟩ = some (.slice A st.cache.length c) := cell_of hI2.disk 9
      have q0 : ((st.C : Int) == 0) = false := by simp; omega
      obtain ⟨L', hL'⟩ : ∃ L' : Nat → Prop, L' = fun i => L i ∨ (w.heap.size ≤ i ∧ i < w2.heap.size) := ⟨_, rfl⟩
      have hIw := HI.out.widen hw2
      rw [← hL'] at hIw
      have HX := Lib.hid (⟨hie, hC, hA1n, hL', hIw⟩ : _ ∧ _ ∧ _ ∧ _ ∧ _)
      clear hie hii hI2 hR2 hg2 hw2 hA1 hs2 hC hA1n hL' hIw
      obtain ⟨q, hq⟩ : ∃ q, decide (st.C ≤ st.cache.length) = q := ⟨_, rfl⟩
      go_upto_region 7 with fail
      go_quiet (fail)
      have HQ := Lib.hid hq
      clear hq
      rename_i K1 hK1 K hK
      refine hK _ _ ?_
      clear hK K
      go_cut [] from 48 to 49 (fun wx => DiskAt L' d st.room wx ∧ Kp L' w2 wx)
      case first =>
        cases q
        · have hroom : st.room = st := by
            unfold St.room
            rw [if_neg]
            have := HQ.out
            simpa using this
          have HR := Lib.hid hroom
          clear hroom
          go_wp2_with fail
          go_meet
          exact ⟨by rw [HR.out]; exact ⟨_, _, _, _, _, _, _, _, _, HX.out.2.2.2.2.drewN nq⟩, rfl, rfl, rfl, Nat.le_refl _, fun _ _ _ => rfl⟩
        · have hCl : st.C ≤ st.cache.length := by
            have := HQ.out
            simpa using this
          obtain ⟨x, hx⟩ : ∃ x, st.cache[0]? = some x := ⟨_, List.getElem?_eq_getElem (by have := HX.out.2.1; omega)⟩
          have hroom : st.room = st.land 0 x := by
            unfold St.room
            rw [if_pos hCl]
            cases hc : st.cache with
            | nil => rw [hc] at hx; simp at hx
            | cons y ys => rw [hc] at hx; simp at hx; rw [hx]
          have hld := land_ret L' d st 0 x (w2.drewN nq) ⟨_, _, _, _, _, _, _, _, _, HX.out.2.2.2.2.drewN nq⟩ hx
          have HR := Lib.hid hroom
          clear hx hroom hCl
          go_wp2_with fail
          refine hld.mono ?_
          rintro e wx ⟨rfl, hch⟩
          go_wp2_with fail
          go_meet
          exact ⟨by rw [HR.out]; exact hch.1, hch.2.os, hch.2.tape, hch.2.output, hch.2.size, hch.2.block⟩
      case rest =>
      obtain ⟨hdk, hkp⟩ := hcut
      have hL' := HX.out.2.2.2.1
      have hgk : wc.heap[w.heap.size]? = w2.heap[w.heap.size]? := hkp.block _ H2.out.2.2.2.2.2 (by rw [hL']; exact .inr ⟨Nat.le_refl _, H2.out.2.2.2.2.2⟩)
      have hgc : wc.cell? ⟨w.heap.size, 0, none⟩ = some (.int .i64 n) := by
        have := H2.out.2.2.1
        unfold World.cell? at this ⊢
        rw [hgk]; exact this
      have hRc : RowB wc A1 64 c1 xs := H2.out.2.1.keep fun a ea => hkp.block _ (H2.out.2.2.2.2.1 a ea).2 (by rw [hL']; have := H2.out.2.2.2.2.1 a ea; exact .inr ⟨by omega, this.2⟩)
      have hdk0 : DiskAt L d st.room wc := by
        obtain ⟨u4, u5, u6, nb, A2, c2, r1, r2, r3, hIc⟩ := hdk
        exact ⟨_, _, _, _, _, _, _, _, _, hIc.sub fun i hi => by rw [hL']; exact .inl hi⟩
      have hkp0 : Kp L w wc := (Kp.below H2.out.2.2.2.1).trans (hkp.sub fun i hi => by rw [hL']; exact .inl hi)
      have hsl : st.room.cache.length ≤ 4 := by
        have h1 := H2.out.1.len
        have hC := HX.out.2.1
        unfold St.room
        split
        · rename_i hle
          cases hc : st.cache with
          | nil => rw [hc] at hle; simp at hle; omega
          | cons y ys =>
            have : (y :: ys).length ≤ 5 := by rw [← hc]; exact h1.1
            simp only [St.land, hc, List.take_zero, List.nil_append, List.drop_succ_cons, List.drop_zero]
            simpa using this
        · omega
      have hAn := HX.out.2.2.1
      have hK : st.keep ⟨n, A1, c1, xs⟩ = { st.room with cache := st.room.cache ++ [⟨n, A1, c1, xs⟩] } := by unfold St.keep; rw [HX.out.1]; dsimp only; rw [if_neg HX.out.2.1]
      have HK := Lib.hid hK
      clear HX H2 hkp hgk hL' hdk hK x2 x9 q0
      obtain ⟨u4, u5, u6, nb, A2, c2, r1, r2, r3, hIc⟩ := hdk0
      generalize st.room = sr at *
      obtain ⟨k, hk⟩ : ∃ k, sr.cache.length = k := ⟨_, rfl⟩
      have z9 : wc.cell? ⟨d, 9, none⟩ = some (.slice A2 k c2) := by rw [← hk]; exact cell_of hIc.disk 9
      obtain ⟨o, ho⟩ : ∃ o, Obj.cells #[.int .i64 n, .slice A1 64 c1] 69 (0, 0) = o := ⟨_, rfl⟩
      have hbo : Below wc.heap.size wc (wc.alloc o) := (Below.refl _ _).alloc (Nat.le_refl _) o
      have hIo := hIc.below hbo
      have z9o : (wc.alloc o).cell? ⟨d, 9, none⟩ = some (.slice A2 k c2) := by rw [← hk]; exact cell_of hIo.disk 9
      have hgo : (wc.alloc o).cell? ⟨w.heap.size, 0, none⟩ = some (.int .i64 n) := (hbo.cell (World.block_lt_of_cell? _ _ hgc)).trans hgc
      have hoo : (wc.alloc o).heap[wc.heap.size]? = some (.cells #[.int .i64 n, .slice A1 64 c1] 69 (0, 0)) := by rw [← ho]; exact heap_alloc_new _ _
      obtain ⟨i0, hi0, hz0, hz1, hz2⟩ := info_parts infoEnt
      have hrow : RowF (wc.alloc o).drew 69 2 A2 k c2 (flat sr.cache) := by rw [← hk]; exact hIo.row
      obtain ⟨A3, c3, w3, hrun, hR3, hef⟩ := hrow.append (P := Tryd.prog) (t := 57) Tryd.underlying57 hi0 hz0 hz1 hz2 rfl (by decide) ⟨wc.heap.size, 0, none⟩ 1 1 [.int .i64 n, .slice A1 64 c1] rfl (fun j u hj => by
        rw [show (⟨wc.heap.size, 0, none⟩ : Addr).add j = ⟨wc.heap.size, j, none⟩ by unfold Addr.add; split <;> simp_all]
        match j, hj with
        | 0, hj => exact (cell_of hoo 0).trans hj
        | 1, hj => exact (cell_of hoo 1).trans hj
        | j + 2, hj => simp at hj) (fun u hu => by
          simp only [List.mem_cons, List.not_mem_nil, or_false] at hu
          rcases hu with rfl | rfl <;> rfl) (by unfold maxLen; omega) (by omega)
      have hD3 : w3.heap[d]? = _ := hef.heap (w := (wc.alloc o).drew) hIo.disk (fun a ea => (hIo.ne2 a ea).1)
      have z3 : w3.cell? ⟨d, 9, none⟩ = some (.slice A2 k c2) := by rw [← hk]; exact cell_of hD3 9
      have f3 := frozen_of hD3 9
      have HZ := Lib.hid (⟨hkp0, hRc, hsl, hAn, hIc, hk, hbo, hIo, hR3, hef, hD3⟩ : _ ∧ _ ∧ _ ∧ _ ∧ _ ∧ _ ∧ _ ∧ _ ∧ _ ∧ _ ∧ _)
      clear hkp0 hRc hsl hAn hIc hk hbo hIo hR3 hef hD3 hoo hi0 hz0 hz1 hz2 hrow
      subst ho
      go_upto_region 9 with fail
      go_region
      all_goals
        go_wp2_with fail
        go_end0
        obtain ⟨hkp0, hRc, hsl, hAn, hIc, hk, hbo, hIo, hR3, hef, hD3⟩ := HZ.out
        refine ⟨rfl, A1, c1, ?_⟩
        rw [HK.out]
        have hP := (Put1.refl hD3).set 9 (.slice A3 (k + 1) c3)
        have hdl := (Array.getElem?_eq_some_iff.1 hIo.disk).1
        have hA3 : ∀ a, A3 = some a → A3 = A2 ∨ (wc.alloc (Obj.cells #[.int .i64 n, .slice A1 64 c1] 69 (0, 0))).heap.size ≤ a.block := fun a ea => by
          rcases hef with ⟨h, _⟩ | ⟨_, h⟩
          · exact .inl h
          · exact .inr (h a ea)
        have hA3d : ∀ a, A3 = some a → a.block ≠ d := fun a ea => by
          rcases hA3 a ea with h | h
          · exact (hIo.ne2 a (h ▸ ea)).1
          · omega
        have hRo : RowB (wc.alloc (Obj.cells #[.int .i64 n, .slice A1 64 c1] 69 (0, 0))) A1 64 c1 xs := hRc.keep fun a ea => hbo.block _ (hRc.lt a ea)
        have n3 := hIo.ne3 hRo
        have hlen : (sr.cache ++ [(⟨n, A1, c1, xs⟩ : Ent)]).length = k + 1 := by rw [List.length_append, hk]; rfl
        have hu := hIo.upd (w' := w3.setCell ⟨d, 9, none⟩ (.slice A3 (k + 1) c3)) (A' := A3) (c' := c3) (t1 := r1) (t2 := r2) (t3 := r3) (st' := { sr with cache := sr.cache ++ [⟨n, A1, c1, xs⟩] })
          ⟨hP.wrote.os.trans hef.ext.1, hP.wrote.tape.trans hef.ext.2.1, hP.wrote.output.trans hef.ext.2.2⟩
          (by have := hP.wrote.size; have := hef.size; simp only [World.size_drew] at this; omega)
          (fun j hj j1 j2 j3 => (hP.wrote.other j j1).trans (hef.other (w := (wc.alloc (Obj.cells #[.int .i64 n, .slice A1 64 c1] 69 (0, 0))).drew) hj (fun a ea e => j3 a ea e.symm)))
          (by dsimp only; rw [hlen]; exact hP.heap)
          (hIo.med.keep ((hP.wrote.other nb (fun e => hIo.ne1 e.symm)).trans (hef.other (w := (wc.alloc (Obj.cells #[.int .i64 n, .slice A1 64 c1] 69 (0, 0))).drew) hIo.med.lt (fun a ea => (hIo.ne2 a ea).2))))
          (by
            dsimp only
            rw [hlen, flat_append]
            exact hR3.keep fun a ea => hP.wrote.other _ (hA3d a ea))
          (fun e he => by
            rcases he with he | he
            · rcases List.mem_append.1 he with he | he
              · exact .inl (.inl he)
              · obtain rfl := List.mem_singleton.1 he
                exact .inr ⟨hRo.keep fun a ea => (hP.wrote.other _ (n3 a ea).1).trans (hef.other (w := (wc.alloc (Obj.cells #[.int .i64 n, .slice A1 64 c1] 69 (0, 0))).drew) (hRo.lt a ea) (fun b eb e => (n3 a ea).2.2 b eb e.symm)), hAn⟩
            · exact .inl (.inr he))
          (fun a ea hl => by
            rcases hA3 a ea with h | h
            · exact hIo.nr a (h ▸ ea) hl
            · have := hIo.lt _ hl; omega)
          (by dsimp only; rw [hlen]; have := hIo.len; omega)
        exact ⟨⟨_, _, _, _, _, _, _, _, _, hu.1⟩, (hkp0.trans (Kp.below hbo)).trans hu.2⟩
end Go.Proofs.YtdiameckiihppaaDoor
