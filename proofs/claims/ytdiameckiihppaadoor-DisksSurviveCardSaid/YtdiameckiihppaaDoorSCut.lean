/-
  What is proved here: a power cut.
  Conditions: what the disk's blocks hold.
-/
import Derived.Test.YtdiameckiihppaaDoorSDo
namespace Go.Proofs.YtdiameckiihppaaDoor
open Go.Proofs Go.RowKit

attribute [local go_sem] lt2 lt3 lt4 lt5

/-- a slice of booleans that reads as a list -/
def BL (w : World) (A : Option Addr) (n c : Nat) (bs : List Bool) : Prop :=
  bs.length = n ∧ n ≤ c ∧ ((A = none ∧ n = 0 ∧ c = 0) ∨ ∃ a : Addr, A = some a ∧ ∀ j, j < n → w.cell? (a.add j) = some (.bool (bs[j]?.getD false)))
theorem BL.keep {w w' : World} {A : Option Addr} {n c : Nat} {bs : List Bool} (h : BL w A n c bs) (hk : ∀ p u, (∃ a, A = some a ∧ 0 < n ∧ p.block = a.block) → w.cell? p = some u → w'.cell? p = some u) : BL w' A n c bs := by
  obtain ⟨h1, h2, h3⟩ := h
  refine ⟨h1, h2, h3.imp id ?_⟩
  rintro ⟨a, rfl, h4⟩
  refine ⟨a, rfl, fun j hj => hk _ _ ⟨a, rfl, by omega, ?_⟩ (h4 j hj)⟩
  unfold Addr.add
  split <;> rfl

/-- which blocks reach the medium -/
def cutL (f : Nat → Bool) : Nat → List Ent → (Nat → Option Ent) → Nat → Option Ent
  | _, [], M => M
  | j, x :: xs, M => cutL f (j + 1) xs (if f j then putM M x.n x else M)
def St.cut (st : St) (bs : List Bool) : St := { st with med := cutL (fun j => bs[j]?.getD false) 0 st.cache st.med, cache := [], pend := true }

set_option maxRecDepth 100000 in
theorem reset_nil (w : World) : Calls Tryd.prog 16 #[.pointer none] w fun e w' => e = .returned (.tuple #[]) ∧ w' = w := by
  go_enter Tryd.func16, Tryd.ntmps16
  go_wp2_with fail
  exact bodyPost_ret (results_none rfl _ _ _) rfl ⟨rfl, rfl⟩

def CutEnd (L : Nat → Prop) (d : Nat) (st : St) (bs : List Bool) (w : World) (e : Ending) (w' : World) : Prop := e = .returned (.tuple #[]) ∧ ChgTo L d (st.cut bs) w w'

set_option maxHeartbeats 4000000 in
set_option maxRecDepth 100000 in
theorem cut_ret (L : Nat → Prop) (d : Nat) (st : St) (WA : Option Addr) (wn wc : Nat) (bs : List Bool) (w : World) (h : DiskAt L d st w) (hW : BL w WA wn wc bs) (hWL : ∀ a, WA = some a → 0 < wn → L a.block) :
    Calls Tryd.prog 9 #[.pointer (some ⟨d, 0, none⟩), .slice WA wn wc] w (CutEnd L d st bs w) := by
  obtain ⟨v4, v5, v6, mb, A, c, s1, s2, s3, hI⟩ := h
  have y8 : w.cell? ⟨d, 8, none⟩ = some (.map (some mb)) := cell_of hI.disk 8
  have hval := valid_ret d mb w y8
  obtain ⟨k, hk⟩ : ∃ k, st.cache.length = k := ⟨_, rfl⟩
  have y9 : w.cell? ⟨d, 9, none⟩ = some (.slice A k c) := by rw [← hk]; exact cell_of hI.disk 9
  have hk5 : k ≤ 5 := by rw [← hk]; exact hI.len.1
  obtain ⟨f, hf⟩ : ∃ f : Nat → Bool, f = fun j => bs[j]?.getD false := ⟨_, rfl⟩
  have H0 := Lib.hid (⟨hI, hk, hW, hWL, hf⟩ : _ ∧ _ ∧ _ ∧ _ ∧ _)
  clear hI y8 hk hW hWL hf
  go_enter Tryd.func9, Tryd.ntmps9
  go_wp2_with fail
  refine hval.mono ?_
  rintro e w' ⟨rfl, hww⟩
  rw [hww]
  clear hww hval
  go_wp2_with fail
  go_loopw [4, 5, 14] (fun _ _ i wr => ∃ j : Nat, i = .int .i64 j ∧ j ≤ k ∧ Hid (∃ M, cutL f 0 st.cache st.med = cutL f j (st.cache.drop j) M ∧ DkI L d v4 v5 v6 mb A c s1 s2 s3 { st with med := M } wr ∧ Kp L w wr)) (fun _ _ i _ => k - (intOf i).toNat)
  case atStart => exact ⟨0, rfl, by omega, Lib.hid ⟨st.med, rfl, H0.out.1, Kp.refl _ _⟩⟩
  case round =>
    obtain ⟨j, rfl, hjk, HH⟩ := hrel
    by_cases hj : j < k
    · obtain ⟨M, hM, hIr, hKr⟩ := HH.out
      obtain ⟨x, hx⟩ : ∃ x, st.cache[j]? = some x := ⟨_, List.getElem?_eq_getElem (by rw [H0.out.2.1]; exact hj)⟩
      obtain ⟨hr1, hkc, hr3, ⟨_, h0, _⟩ | ⟨b, off, cs, rfl, hbb, hsz, hcs⟩⟩ := id hIr.row
      · have := H0.out.2.1; simp only at h0; omega
      have hkc' : k ≤ c := by rw [← H0.out.2.1]; exact hkc
      have hl2 : (2 * j + 1) < st.cache.length * 2 := by rw [H0.out.2.1]; omega
      have z1 : wr.cell? ⟨b, off + j * 2, none⟩ = some (.int .i64 x.n) := (cell_of hbb _).trans ((hcs _ (by simp only; omega)).trans (flat_at _ j x hx).1)
      have z2 : wr.cell? ⟨b, off + j * 2 + 1, none⟩ = some (.slice x.A 64 x.c) := (cell_of hbb _).trans ((hcs _ (by simp only; omega)).trans (flat_at _ j x hx).2)
      have q1 : (j : Int) < (k : Int) := by omega
      have q2 : (j : Int) ≤ (c : Int) := by omega
      have HX := Lib.hid (⟨hM, hIr, hKr, hx⟩ : _ ∧ _ ∧ _ ∧ _)
      clear hM hIr hKr hx hr1 hkc hr3 hbb hsz hcs hl2
      go_upto_region 4 with fail
      obtain ⟨o, ho⟩ : ∃ o, Obj.cells #[.int .i64 x.n, .slice x.A 64 x.c] 69 (0, 0) = o := ⟨_, rfl⟩
      obtain ⟨wx, hwx⟩ : ∃ wx, wr.alloc o = wx := ⟨_, rfl⟩
      rw [ho, hwx]
      have hbx : Below wr.heap.size wr wx := hwx ▸ (Below.refl _ _).alloc (Nat.le_refl _) _
      have hox : wx.heap[wr.heap.size]? = some (.cells #[.int .i64 x.n, .slice x.A 64 x.c] 69 (0, 0)) := by rw [← hwx, ho]; exact heap_alloc_new _ _
      have o0 := cell_of hox 0
      have o1 := cell_of hox 1
      have hIx := HX.out.2.1.below hbx
      have x8 : wx.cell? ⟨d, 8, none⟩ = some (.map (some mb)) := cell_of hIx.disk 8
      have hWx : BL wx WA wn wc bs := H0.out.2.2.1.keep fun p u ⟨a, ea, h0, hp⟩ hc => by
        have h1 := HX.out.2.2.1.block p.block (World.block_lt_of_cell? _ _ hc) (by rw [hp]; exact H0.out.2.2.2.1 a ea h0)
        have h2 := hbx.block p.block (Nat.lt_of_lt_of_le (World.block_lt_of_cell? _ _ hc) HX.out.2.2.1.size)
        have e := h2.trans h1
        unfold World.cell? at hc ⊢
        rw [e]; exact hc
      have HY := Lib.hid (⟨hbx, hIx, hWx⟩ : _ ∧ _ ∧ _)
      have hnext : ∀ M2 w3, cutL f (j + 1) (st.cache.drop (j + 1)) M2 = cutL f 0 st.cache st.med → DkI L d v4 v5 v6 mb (some ⟨b, off, none⟩) c s1 s2 s3 { st with med := M2 } w3 → Kp L wx w3 → ∃ M, cutL f 0 st.cache st.med = cutL f (j + 1) (st.cache.drop (j + 1)) M ∧ DkI L d v4 v5 v6 mb (some ⟨b, off, none⟩) c s1 s2 s3 { st with med := M } w3 ∧ Kp L w w3 := fun M2 w3 h1 h2 h3 => ⟨M2, h1.symm, h2, (HX.out.2.2.1.trans (Kp.below hbx)).trans h3⟩
      have hstep : ∀ M, HX.out.1 = HX.out.1 → cutL f j (st.cache.drop j) M = cutL f (j + 1) (st.cache.drop (j + 1)) (if f j then putM M x.n x else M) := fun M _ => by
        obtain ⟨hjl, hjx⟩ := List.getElem?_eq_some_iff.1 HX.out.2.2.2
        rw [List.drop_eq_getElem_cons hjl, hjx]
        rfl
      have HN := Lib.hid (⟨hnext, hstep⟩ : _ ∧ _)
      clear hnext hstep hbx hox hIx hwx ho z1 z2
      obtain ⟨t, ht⟩ : ∃ t, f j = t := ⟨_, rfl⟩
      have HT := Lib.hid ht
      clear ht
      have hfj : t = (bs[j]?.getD false) := by rw [← HT.out, H0.out.2.2.2.2]
      cases t
      · have hrel' : ∀ w3, DkI L d v4 v5 v6 mb (some ⟨b, off, none⟩) c s1 s2 s3 { st with med := M } w3 → Kp L wx w3 → ∃ M, cutL f 0 st.cache st.med = cutL f (j + 1) (st.cache.drop (j + 1)) M ∧ DkI L d v4 v5 v6 mb (some ⟨b, off, none⟩) c s1 s2 s3 { st with med := M } w3 ∧ Kp L w w3 := fun w3 h1 h2 => HN.out.1 M w3 (by rw [HX.out.1, HN.out.2 M rfl, HT.out]; rfl) h1 h2
        have HRL := Lib.hid hrel'
        clear hrel'
        by_cases hjw : j < wn
        · obtain ⟨a, rfl, hca⟩ : ∃ a, WA = some a ∧ wx.cell? (a.add j) = some (.bool false) := by
            obtain ⟨b1, b2, ⟨_, h0, _⟩ | ⟨a, rfl, h4⟩⟩ := HY.out.2.2
            · omega
            · exact ⟨a, rfl, by rw [h4 j hjw, ← hfj]⟩
          have q3 : (j : Int) < (wn : Int) := by omega
          have q4 : (j : Int) ≤ (wc : Int) := by have := HY.out.2.2.2.1; omega
          clear hfj
          go_wp2_with fail
          go_roundw
          case rel => exact ⟨j + 1, by go_num, by omega, Lib.hid (HRL.out _ HY.out.2.1 (Kp.refl _ _))⟩
          case measure => simp [intOf]; omega
        · have q3 : ¬ (j : Int) < (wn : Int) := by omega
          clear hfj
          go_wp2_with fail
          go_roundw
          case rel => exact ⟨j + 1, by go_num, by omega, Lib.hid (HRL.out _ HY.out.2.1 (Kp.refl _ _))⟩
          case measure => simp [intOf]; omega
      · have hjw : j < wn := by
          obtain ⟨b1, _⟩ := HY.out.2.2
          rw [← b1]
          by_cases h : j < bs.length
          · exact h
          · rw [List.getElem?_eq_none (by omega)] at hfj; cases hfj
        obtain ⟨a, rfl, hca⟩ : ∃ a, WA = some a ∧ wx.cell? (a.add j) = some (.bool true) := by
          obtain ⟨b1, b2, ⟨_, h0, _⟩ | ⟨a, rfl, h4⟩⟩ := HY.out.2.2
          · omega
          · exact ⟨a, rfl, by rw [h4 j hjw, ← hfj]⟩
        have q3 : (j : Int) < (wn : Int) := by omega
        have q4 : (j : Int) ≤ (wc : Int) := by have := HY.out.2.2.2.1; omega
        clear hfj
        go_upto_region 5 with fail
        refine region_last (by kernel_rfl) rfl rfl (by kernel_rfl) (by kernel_rfl) (by kernel_rfl) (by kernel_rfl) ?_
        dsimp only [List.dropLast, List.getLast?, List.getLast]
        repeat (go_big_quiet_step (fail))
        refine wpQuiet_nil ?_
        rintro _ ⟨nq, rfl⟩
        have hM0 : MedAt (wx.drewN nq) mb M := HY.out.2.1.med
        obtain ⟨w3, hput, hW3', hM3⟩ := med_put hM0 x.n x
        have hW3 : Wrote mb wx w3 := ⟨hW3'.os, hW3'.tape, hW3'.output, hW3'.size, hW3'.other⟩
        have HM := Lib.hid (⟨hW3, hM3⟩ : _ ∧ _)
        unfold Ent.val at hput
        refine op_any (n := .skip) (w' := w3) (by unfold execOp; simp [go_sem, hput]) ?_
        rw [Oper.upon_skip]
        clear hM0 hput hW3' hM3 hW3 x8 o0 o1 hca
        dsimp only [Act.put]
        go_wp2_with fail
        go_roundw
        case rel =>
          obtain ⟨hW3, hM3⟩ := HM.out
          have hI2 := HY.out.2.1
          have n1 := hI2.ne1
          have n2 := hI2.ne2
          have hu := hI2.upd (w' := w3) (A' := some ⟨b, off, none⟩) (c' := c) (t1 := s1) (t2 := s2) (t3 := s3) (st' := { st with med := putM M x.n x })
            ⟨hW3.os, hW3.tape, hW3.output⟩ (Nat.le_of_eq hW3.size.symm) (fun i _ _ j2 _ => hW3.other i j2)
            ((hW3.other d n1).trans hI2.disk) hM3 (hI2.row.keep fun a ea => hW3.other _ (n2 a ea).2)
            (fun e he => by
              refine .inl ?_
              rcases he with he | ⟨m, he⟩
              · exact .inl he
              · dsimp only [putM] at he
                split at he
                · injection he with he
                  subst he
                  exact .inl (List.mem_of_getElem? HX.out.2.2.2)
                · exact .inr ⟨m, he⟩)
            hI2.nr hI2.len
          exact ⟨j + 1, by go_num, by omega, Lib.hid (HN.out.1 _ _ (by rw [HX.out.1, HN.out.2 M rfl, HT.out]; rfl) hu.1 hu.2)⟩
        case measure => simp [intOf]; omega
    · obtain ⟨M, hM, hIr, hKr⟩ := HH.out
      obtain rfl : j = k := by omega
      have hdr : st.cache.drop j = [] := List.drop_eq_nil_of_le (by rw [H0.out.2.1]; omega)
      rw [hdr] at hM
      have hD := hIr.disk
      have z9 : wr.cell? ⟨d, 9, none⟩ = some (.slice A j c) := by have := cell_of hD 9; rw [this]; exact congrArg (fun n => some (Value.slice A n c)) H0.out.2.1
      have z10 : wr.cell? ⟨d, 10, none⟩ = some (.int .u8 s1) := cell_of hD 10
      have z11 : wr.cell? ⟨d, 11, none⟩ = some (.int .u8 s2) := cell_of hD 11
      have z12 : wr.cell? ⟨d, 12, none⟩ = some (.int .u8 s3) := cell_of hD 12
      have z13 : wr.cell? ⟨d, 13, none⟩ = some (.bool st.pend) := cell_of hD 13
      have z16 : wr.cell? ⟨d, 16, none⟩ = some (.pointer none) := cell_of hD 16
      have z17 : wr.cell? ⟨d, 17, none⟩ = some (.slice none 0 0) := cell_of hD 17
      have f9 := frozen_of hD 9
      have f10 := frozen_of hD 10
      have f11 := frozen_of hD 11
      have f12 := frozen_of hD 12
      have f13 := frozen_of hD 13
      have f17 := frozen_of hD 17
      have HX := Lib.hid (⟨hM, hIr, hKr⟩ : _ ∧ _ ∧ _)
      clear hM hIr hKr hdr hD
      go_wp2_with fail
      refine (reset_nil _).mono ?_
      rintro e w2 ⟨rfl, hw2⟩
      rw [hw2]
      clear hw2
      go_wp2_with fail
      go_end0
      have hD := HX.out.2.1.disk
      have hP := ((((((Put1.refl hD).set 9 (.slice none 0 0)).set 10 (.int .u8 0)).set 11 (.int .u8 0)).set 12 (.int .u8 0)).set 13 (.bool true)).set 17 (.slice none 0 0)
      generalize ((((((wr.setCell ⟨d, 9, none⟩ (.slice none 0 0)).setCell ⟨d, 10, none⟩ (.int .u8 0)).setCell ⟨d, 11, none⟩ (.int .u8 0)).setCell ⟨d, 12, none⟩ (.int .u8 0)).setCell ⟨d, 13, none⟩ (.bool true)).setCell ⟨d, 17, none⟩ (.slice none 0 0)) = w9 at hP ⊢
      have hI2 := HX.out.2.1
      have hcut : st.cut bs = { st with med := M, cache := [], pend := true } := by
        unfold St.cut
        rw [← H0.out.2.2.2.2, HX.out.1]
        rfl
      have hu := hI2.upd (w' := w9) (A' := none) (c' := 0) (t1 := 0) (t2 := 0) (t3 := 0) (st' := { st with med := M, cache := [], pend := true })
        ⟨hP.wrote.os, hP.wrote.tape, hP.wrote.output⟩ (Nat.le_of_eq hP.wrote.size.symm) (fun i _ j1 _ _ => hP.wrote.other i j1)
        hP.heap (hI2.med.keep (hP.wrote.other mb (fun e => hI2.ne1 e.symm))) (RowF.nil _ _ _)
        (fun e he => by
          rcases he with he | he
          · cases he
          · exact .inl (.inr he))
        (fun a ea => nomatch ea) ⟨by simp, hI2.len.2⟩
      refine ⟨rfl, ?_⟩
      rw [hcut]
      exact ⟨⟨_, _, _, _, _, _, _, _, _, hu.1⟩, HX.out.2.2.trans hu.2⟩
end Go.Proofs.YtdiameckiihppaaDoor
