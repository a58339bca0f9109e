/-
  What is proved here: land: an entry of the cache goes to the medium.
  Conditions: what the disk's blocks hold.
-/
import Derived.Test.YtdiameckiihppaaDoorSState
import Derived.Test.YtdiameckiihppaaDoorSLast
namespace Go.Proofs.YtdiameckiihppaaDoor
open Go.Proofs Go.RowKit

attribute [local go_sem] lt2 lt3 lt4 lt5

def St.land (st : St) (i : Nat) (e : Ent) : St := { st with med := putM st.med e.n e, cache := st.cache.take i ++ st.cache.drop (i + 1) }

/-- what a change of the disk leaves -/
def ChgTo (L : Nat → Prop) (d : Nat) (st' : St) (w w' : World) : Prop := DiskAt L d st' w' ∧ Kp L w w'
/-- what land leaves -/
def LandEnd (L : Nat → Prop) (d : Nat) (st' : St) (w : World) (e : Ending) (w' : World) : Prop := e = .returned (.tuple #[]) ∧ ChgTo L d st' w w'

set_option maxHeartbeats 4000000 in
set_option maxRecDepth 100000 in
theorem land_ret (L : Nat → Prop) (d : Nat) (st : St) (i : Nat) (e : Ent) (w : World) (h : DiskAt L d st w) (hi : st.cache[i]? = some e) :
    Calls Tryd.prog 56 #[.pointer (some ⟨d, 0, none⟩), .int .i64 i] w (LandEnd L d (st.land i e) w) := by
  obtain ⟨v4, v5, v6, mb, A, c, s1, s2, s3, hI⟩ := h
  have hil : i < st.cache.length := (List.getElem?_eq_some_iff.1 hi).1
  obtain ⟨hf1, hf2⟩ := flat_at _ i e hi
  obtain ⟨hr1, hkc, hr3, ⟨_, h0, _⟩ | ⟨b, off, cs, rfl, hb2, hsz, hcs⟩⟩ := id hI.row
  · omega
  have hc1 : w.cell? ⟨b, off + i * 2, none⟩ = some (.int .i64 e.n) := (cell_of hb2 _).trans ((hcs _ (by omega)).trans hf1)
  have hc2 : w.cell? ⟨b, off + i * 2 + 1, none⟩ = some (.slice e.A 64 e.c) := (cell_of hb2 _).trans ((hcs _ (by omega)).trans hf2)
  have x8 : w.cell? ⟨d, 8, none⟩ = some (.map (some mb)) := cell_of hI.disk 8
  have x9 : w.cell? ⟨d, 9, none⟩ = some (.slice (some ⟨b, off, none⟩) st.cache.length c) := cell_of hI.disk 9
  have q1 : (i : Int) < (st.cache.length : Int) := by omega
  have q2 : (i : Int) ≤ (c : Int) := by omega
  have HI := Lib.hid hI
  have HX := Lib.hid hi
  have HIL := Lib.hid hil
  clear hI hr1 hkc hr3 hb2 hsz hcs hi hf1 hf2 hil
  go_enter Tryd.func56, Tryd.ntmps56
  go_upto_region 0 with fail
  refine region_last (by kernel_rfl) rfl rfl (by kernel_rfl) (by kernel_rfl) (by kernel_rfl) (by kernel_rfl) ?_
  dsimp only [List.dropLast, List.getLast?, List.getLast]
  repeat (go_big_quiet_step (fail))
  refine wpQuiet_nil ?_
  rintro _ ⟨nq, rfl⟩
  have n1 := HI.out.ne1
  have n2 := HI.out.ne2 _ rfl
  have hM0 : MedAt (w.drewN nq) mb st.med := HI.out.med
  obtain ⟨w1, hput, hW1', hM1⟩ := med_put hM0 e.n e
  have hW1 : Wrote mb w w1 := ⟨hW1'.os, hW1'.tape, hW1'.output, hW1'.size, hW1'.other⟩
  unfold Ent.val at hput
  refine op_any (n := .skip) (w' := w1) (by unfold execOp; simp [go_sem, hput]) ?_
  rw [Oper.upon_skip]
  rename_i K hK
  refine hK _ _ ?_
  clear hK K
  dsimp only [Act.put]
  have hD1 : w1.heap[d]? = _ := (hW1.other d n1).trans HI.out.disk
  have hR1 : RowF w1 69 2 (some ⟨b, off, none⟩) st.cache.length c (flat st.cache) := HI.out.row.keep fun a ea => by cases ea; exact hW1.other _ n2.2
  have y9 : w1.cell? ⟨d, 9, none⟩ = some (.slice (some ⟨b, off, none⟩) st.cache.length c) := cell_of hD1 9
  have hdel := delete_ret b off st.cache.length c i (i + 1) (flat st.cache) w1 hR1 HIL.out (by have := HI.out.len; omega) rfl
  have q3 : (((i + 1 : Nat) : Int)) = (i : Int) + 1 := by omega
  rw [q3] at hdel
  have HY := Lib.hid (⟨hW1, hM1, hD1, n1, n2⟩ : _ ∧ _ ∧ _ ∧ _ ∧ _)
  clear q3 hM0 hput hW1' hM1 hW1 hD1 hR1 n1 n2
  have hi5 : i ≤ 5 := by have := HI.out.len; have := HIL.out; omega
  go_wp2_with fail
  refine hdel.mono ?_
  rintro z w2 ⟨rfl, hR2, hW2⟩
  have hD2 : w2.heap[d]? = _ := (hW2.other d (fun e => HY.out.2.2.2.2.1 e.symm)).trans HY.out.2.2.1
  have z9 : w2.cell? ⟨d, 9, none⟩ = some (.slice (some ⟨b, off, none⟩) st.cache.length c) := cell_of hD2 9
  have f9 := frozen_of hD2 9
  have HZ := Lib.hid (⟨hR2, hW2, hD2⟩ : _ ∧ _ ∧ _)
  clear hR2 hW2 hD2 hdel y9
  go_wp2_with fail
  go_end0
  obtain ⟨hW1, hM1, hD1, n1, n2, n3⟩ := HY.out
  obtain ⟨hR2, hW2, hD2⟩ := HZ.out
  have hP := (Put1.refl hD2).set 9 (.slice (some ⟨b, off, none⟩) (st.cache.length - 1) c)
  have hlen : (st.cache.take i ++ st.cache.drop (i + 1)).length = st.cache.length - 1 := by
    have := HIL.out
    rw [List.length_append, List.length_take, List.length_drop]; omega
  refine ⟨rfl, ?_⟩
  have hu := HI.out.upd (w' := w2.setCell ⟨d, 9, none⟩ (.slice (some ⟨b, off, none⟩) (st.cache.length - 1) c)) (A' := some ⟨b, off, none⟩) (c' := c) (t1 := s1) (t2 := s2) (t3 := s3) (st' := st.land i e)
    ⟨hP.wrote.os.trans (hW2.os.trans hW1.os), hP.wrote.tape.trans (hW2.tape.trans hW1.tape), hP.wrote.output.trans (hW2.output.trans hW1.output)⟩
    (by have := hP.wrote.size; have := hW2.size; have := hW1.size; omega)
    (fun j hj j1 j2 j3 => (hP.wrote.other j j1).trans ((hW2.other j (j3 _ rfl)).trans (hW1.other j j2)))
    (by unfold St.land; dsimp only; rw [hlen]; exact hP.heap)
    (hM1.keep ((hP.wrote.other mb (fun e => n1 e.symm)).trans (hW2.other mb (fun e => n3 e.symm))))
    (by
      unfold St.land; dsimp only
      rw [hlen, flat_append, ← flat_take, ← flat_drop]
      exact hR2.keep fun a ea => by cases ea; exact hP.wrote.other _ n2)
    (by
      intro x hx
      refine .inl ?_
      rcases hx with hx | ⟨m, hx⟩
      · refine .inl ?_
        rcases List.mem_append.1 hx with hx | hx
        · exact List.mem_of_mem_take hx
        · exact List.mem_of_mem_drop hx
      · unfold St.land putM at hx
        dsimp only at hx
        split at hx
        · injection hx with hx
          subst hx
          exact .inl (List.mem_of_getElem? HX.out)
        · exact .inr ⟨m, hx⟩)
    HI.out.nr (by have := HI.out.len; unfold St.land; dsimp only; rw [hlen]; omega)
  exact ⟨⟨_, _, _, _, _, _, _, _, _, hu.1⟩, hu.2⟩
end Go.Proofs.YtdiameckiihppaaDoor
