/-
  What is proved here: what bulks.Answer returns for a stream IN, exactly.
  Conditions: what the transfer's bytes hold.
  What is proved here: what bulks.received does with the bytes of a packet.
  Conditions: what the transfer's block and bytes hold.
-/
import Derived.Test.YtiajboiobjfcoaaGreatDoorOBa
import Derived.Deep.Upon
import Derived.Test.YtiajboiobjfcoaaGreatDoorOAns
namespace Go.Proofs.YtiajboiobjfcoaaGreatDoor
open Go.Proofs Go.RowKit
attribute [local go_sem] lt2 lt3 lt4 lt5 run_store_fn
attribute [-go_sem] Builtin.append_
theorem info8 : (Tryz.prog.info? 5).map (fun i => (i.zero, i.size, i.bytes)) = some (some (.int .u8 0), 1, 1) := by kernel_rfl
def Grown8 (w : World) (A : Option Addr) (n m : Nat) (zs : List Int) (v : Value) (w' : World) : Prop :=
 ∃ A' c', v = .slice A' (n + m) c' ∧ U8 w' A' (n + m) c' zs ∧ Below w.heap.size w w' ∧ ((m = 0 ∧ A' = A ∧ c' = n) ∨ ∃ g, A' = some ⟨g, 0, none⟩ ∧ w.heap.size ≤ g)
theorem grown8 {w : World} {A B : Option Addr} {n m c : Nat} {xs ys : List Int} (hA : U8 w A n n xs) (hB : U8 w B m c ys) (hn : n + m ≤ 65536) :
  ∃ v w', (Builtin.append_ #[23, 23] 23 #[.slice A n n, .slice B m c]).run Tryz.prog w = .ok v w' ∧ Grown8 w A n m (xs ++ ys) v w' := by
 obtain ⟨i0, hi, hz0, hz1, hz2⟩ := info_parts info8
 have hxl := hA.1
 have hyl := hB.1
 rcases Nat.eq_zero_or_pos m with rfl | hm
 ·have hys : ys = [] := List.length_eq_zero_iff.1 hyl
  subst hys
  have hB' : B = none ∨ ∃ a, B = some a := by cases B <;> simp
  refine ⟨.slice A n n, w, ?_, A, n, rfl, by simpa using hA, Below.refl _ _, .inl ⟨rfl, rfl, rfl⟩⟩
  have hul : Tryz.prog.underlying 23 = some (.slice 5) := Tryz.underlying23
  rcases hB.2.2.2 with ⟨rfl, _, rfl⟩ | ⟨b, rfl, _⟩
  ·cases A <;> simp [Builtin.append_, run_underlying hul, sizeOf, typeInfo, hi, Builtin.lenOf, run_firstCells_none, storeCells, Sem.run_bind, Result.andThen]
  ·have hf : ∀ w' : World, (Builtin.firstCells i0.size 0 (.slice (some b) 0 c)).run Tryz.prog w' = .ok #[] w' := fun w' => by
    have := run_firstCells_some (P := Tryz.prog) w' i0.size 0 b 0 c [] (by simp) (fun j v h => by simp at h)
    simpa using this
   cases A <;> simp [Builtin.append_, run_underlying hul, sizeOf, typeInfo, hi, Builtin.lenOf, hf, storeCells, Sem.run_bind, Result.andThen]
 ·obtain ⟨b, rfl, hb⟩ : ∃ b, B = some b ∧ ∀ j, j < m → w.cell? (b.add j) = some (.int .u8 (ys[j]?.getD 0)) := by
   rcases hB.2.2.2 with ⟨_, h, _⟩ | h
   ·omega
   ·exact h
  have hnews : ∀ (j : Nat) v, (ys.map (Value.int .u8))[j]? = some v → w.cell? (b.add j) = some v := by
   intro j v hj
   rw [List.getElem?_map, Option.map_eq_some_iff] at hj
   obtain ⟨x, hx, rfl⟩ := hj
   have hjn : j < m := by rw [← hyl]; exact (List.getElem?_eq_some_iff.1 hx).1
   have := hb j hjn
   rwa [hx] at this
  have hcell : ∀ (w1 : World) (zs : Array Value), w1.heap = w.heap → ∀ j, j < n + m → (w1.alloc (.cells ((xs.map (Value.int .u8)).toArray ++ (ys.map (Value.int .u8)).toArray ++ zs) 5)).cell? ((⟨w.heap.size, 0, none⟩ : Addr).add j) = some (.int .u8 ((xs ++ ys)[j]?.getD 0)) := by
   intro w1 zs hw j hj
   rw [show (⟨w.heap.size, 0, none⟩ : Addr).add j = ⟨w.heap.size, j, none⟩ by unfold Addr.add; split <;> simp_all]
   have h1 := heap_alloc_new w1 (.cells ((xs.map (Value.int .u8)).toArray ++ (ys.map (Value.int .u8)).toArray ++ zs) 5)
   rw [hw] at h1
   rw [cell_of h1 j]
   have hl : j < (xs ++ ys).length := by rw [List.length_append]; omega
   rw [List.getElem?_eq_getElem hl]
   have e : ((xs.map (Value.int .u8)).toArray ++ (ys.map (Value.int .u8)).toArray ++ zs)[j]? = (((xs ++ ys).map (Value.int .u8)).toArray ++ zs)[j]? := by simp
   rw [e, Array.getElem?_append_left (by simpa using hl), List.getElem?_toArray, List.getElem?_map, List.getElem?_eq_getElem hl]
   rfl
  have hr : ∀ x ∈ xs ++ ys, 0 ≤ x ∧ x ≤ 255 := fun x hx => (List.mem_append.1 hx).elim (hA.2.1 x) (hB.2.1 x)
  rcases hA.2.2.2 with ⟨rfl, rfl, _⟩ | ⟨a, rfl, ha⟩
  ·have hxs : xs = [] := List.length_eq_zero_iff.1 hxl
   subst hxs
   have hrun := run_append_nil (P := Tryz.prog) w 23 23 5 i0 (.int .u8 0) Tryz.underlying23 hi hz0 b m c (ys.map (Value.int .u8)) (by rw [hz1]; simp [hyl]) hnews hm (by omega) (by rw [hz2]; omega)
   have hc := hcell w.drew (Builtin.zeroCells (Value.int .u8 0).cells (grownCap w m 0 5 - m)) rfl
   have e0 : (([] : List Int).map (Value.int .u8)).toArray ++ (ys.map (Value.int .u8)).toArray = (ys.map (Value.int .u8)).toArray := by simp
   rw [e0] at hc
   refine ⟨_, _, hrun, some ⟨w.heap.size, 0, none⟩, grownCap w m 0 5, by rw [Nat.zero_add], ⟨by simp [hyl], hr, by rw [Nat.zero_add]; exact grownCap_ge _ _ _ _, .inr ⟨_, rfl, hc⟩⟩, ((Below.refl _ w).drew).alloc (by simp) _, .inr ⟨_, rfl, Nat.le_refl _⟩⟩
  ·have hrun := run_append_grow (P := Tryz.prog) w 23 23 5 i0 (.int .u8 0) Tryz.underlying23 hi hz0 a n n (xs.map (Value.int .u8)) (by rw [hz1]; simp [hxl]) (fun j v hj => by
    rw [List.getElem?_map, Option.map_eq_some_iff] at hj
    obtain ⟨x, hx, rfl⟩ := hj
    have hjn : j < n := by rw [← hxl]; exact (List.getElem?_eq_some_iff.1 hx).1
    have := ha j hjn
    rwa [hx] at this) b m c (ys.map (Value.int .u8)) (by rw [hz1]; simp [hyl]) hnews (by omega) (by omega) (growslice_fits (by omega) (by rw [hz2]; omega))
   refine ⟨_, _, hrun, some ⟨w.heap.size, 0, none⟩, _, rfl, ⟨by simp [hxl, hyl], hr, grownCap_ge _ _ _ _, .inr ⟨_, rfl, hcell w.drew _ rfl⟩⟩, ((Below.refl _ w).drew).alloc (by simp) _, .inr ⟨_, rfl, Nat.le_refl _⟩⟩
end Go.Proofs.YtiajboiobjfcoaaGreatDoor

namespace Go.Proofs.YtiajboiobjfcoaaGreatDoor
open Go.Proofs Go.RowKit
attribute [local go_sem] lt2 lt3 lt4 lt5 run_store_fn
attribute [-go_sem] Builtin.append_
def lastB (n dn ln : Nat) : Bool := decide (n < 8) || decide (dn + n = ln)
def RecvEnd (g : Nat) (en : Int) (tg z : Bool) (ln : Nat) (L : Value) (DA : Option Addr) (dn dc n : Nat) (zs : List Int) (er : Int) (w : World) (e' : Ending) (w' : World) : Prop :=
 (∃ v, e' = .returned v) ∧ Mx (fun i => i = g) no w no w' ∧
  ((ln < dn + n ∧ w'.heap[g]? = some (.cells (trV true en 8 tg z ln L (.slice DA dn dc) (dn : Int) er true 13) 47 (0, 0))) ∨
   (dn + n ≤ ln ∧ ∃ A' c', w'.heap[g]? = some (.cells (trV true en 8 (!tg) z ln L (.slice A' (dn + n) c') ((dn + n : Nat) : Int) er (lastB n dn ln) 0) 47 (0, 0)) ∧ U8 w' A' (dn + n) c' zs ∧ Pl A' (dn + n) ∧
    ((n = 0 ∧ A' = DA ∧ c' = dn) ∨ ∃ g', A' = some ⟨g', 0, none⟩ ∧ w.heap.size ≤ g')))
theorem Wrote.mx {g : Nat} {w w' : World} (h : Wrote g w w') : Mx (fun i => i = g) no w no w' := ⟨h.os, h.tape, h.output, Nat.le_of_eq h.size.symm, fun i _ _ hx => h.other i hx, fun _ _ h => h⟩
set_option maxHeartbeats 4000000 in
set_option maxRecDepth 1000000 in
theorem recv_ret (g : Nat) (en : Int) (tg z : Bool) (ln : Nat) (L : Value) (DA : Option Addr) (dn dc : Nat) (xs : List Int) (er : Int) (A : Option Addr) (n c : Nat) (ys : List Int) (w : World)
  (hg : w.heap[g]? = some (.cells (trV true en 8 tg z ln L (.slice DA dn dc) (dn : Int) er false 0) 47 (0, 0)))
  (hD : U8 w DA dn dc xs) (hPl : Pl DA dn) (hu : U8 w A n c ys) (hDg : dn = 0 ∨ ∃ a, DA = some a ∧ a.block ≠ g) (hn : n ≤ 8) (hdn : dn ≤ 1000) (hln : ln ≤ 1000) :
  Calls Tryz.prog 73 #[.pointer (some ⟨g, 0, none⟩), .slice A n c] w (RecvEnd g en tg z ln L DA dn dc n (xs ++ ys) er w) := by
 have hlt : g < w.heap.size := (Array.getElem?_eq_some_iff.1 hg).1
 have hw1 : IntKind.i64.wrap ((dn : Int) + (n : Int)) = (dn : Int) + (n : Int) := IntWalk.i64_in _ (by omega)
 have d1 : ¬ (8 : Int) < (n : Int) := by omega
 have hend := fun (w' : World) (h : w'.heap[g]? = some (.cells (trV true en 8 tg z ln L (.slice DA dn dc) (dn : Int) er false 0) 47 (0, 0))) => end_ret g true en 8 tg z ln L (.slice DA dn dc) (dn : Int) er false 0 13 w' h
 have hgt := hg
 unfold trV at hg
 have c2 := cell_of hg 2
 have c6 := cell_of hg 6
 have c8 := cell_of hg 8
 go_enter Tryz.func73, Tryz.ntmps73
 go_upto_region 0 with fail
 by_cases hb : ln < dn + n
 ·have d2 : (ln : Int) < (dn : Int) + (n : Int) := by omega
  go_region
  all_goals
   go_wp2_with fail
   refine (hend _ (by exact hgt)).mono ?_
   rintro e' w' ⟨⟨v, rfl⟩, hW, hh⟩
   go_wp2_with fail
   go_end0
   exact ⟨⟨_, rfl⟩, (show Wrote g w w' from ⟨hW.os, hW.tape, hW.output, hW.size, hW.other⟩).mx, .inl ⟨hb, hh⟩⟩
 ·have d2 : ¬ (ln : Int) < (dn : Int) + (n : Int) := by omega
  have hD' : U8 w DA dn dn xs := by
   obtain ⟨h1, h2, h3, h4⟩ := hD
   exact ⟨h1, h2, Nat.le_refl _, h4.imp (fun ⟨a, b, _⟩ => ⟨a, b, b⟩) id⟩
  obtain ⟨v, w2, hrun, hG⟩ := grown8 (w := w.drew) hD'.drew hu.drew (by omega)
  obtain ⟨A2, c2', rfl, hU2, hB2, hA2⟩ := hG
  have HU2 := Lib.hid hU2
  have HA2 := Lib.hid hA2
  clear hU2 hA2 hgt hend
  have hg2 := heap_below (w := w.drew) hg hB2
  have k8 := cell_of hg2 8
  have m8 := frozen_of hg2 8
  have q1 : dn ≤ dc := hD.2.2.1
  have q2 : (dn : Int) ≤ (dc : Int) := by omega
  go_region
  all_goals
   go_upto_region 4 with fail
   have hP := (((Put1.refl hg2).set 8 (.slice A2 (dn + n) c2')).set 9 (.int .i64 ((dn : Int) + (n : Int)))).set 3 (.bool !tg)
   obtain ⟨w3, hw3⟩ : ∃ w3, w2.setCell ⟨g, 8, none⟩ (.slice A2 (dn + n) c2') = w3 := ⟨_, rfl⟩
   rw [hw3] at hP ⊢
   have hg3 : w3.heap[g]? = some (.cells #[.bool true, .int .u8 en, .int .i64 8, .bool tg, .slice none 0 0, .bool z, .int .i64 (ln : Int), L, .slice A2 (dn + n) c2', .int .i64 (dn : Int), .int .i64 er, .bool false, .int .i64 0] 47 (0, 0)) := by rw [← hw3]; exact setCell_heap hg2 8 _
   clear hw3 k8 m8 c2 c6 c8
   have k2 := cell_of hg3 2
   have k3 := cell_of hg3 3
   have k6 := cell_of hg3 6
   have k8 := cell_of hg3 8
   have k9 := cell_of hg3 9
   have m3 := frozen_of hg3 3
   have m9 := frozen_of hg3 9
   go_upto_region 6 with fail
   have hPh := hP.heap
   have hPw := hP.wrote
   clear hP hg3 k2 k3 k6 k8 k9 m3 m9
   obtain ⟨w4, hw4⟩ : ∃ w4, (w3.setCell ⟨g, 9, none⟩ (.int .i64 ((dn : Int) + (n : Int)))).setCell ⟨g, 3, none⟩ (.bool !tg) = w4 := ⟨_, rfl⟩
   rw [hw4] at hPh hPw ⊢
   clear hw4
   have hg4 : w4.heap[g]? = some (.cells (trV true en 8 (!tg) z ln L (.slice A2 (dn + n) c2') ((dn + n : Nat) : Int) er false 0) 47 (0, 0)) := by
    rw [hPh]; unfold trV; simp
   have hmx : Mx (fun i => i = g) no w no w4 := ⟨hPw.os.trans hB2.os, hPw.tape.trans hB2.tape, hPw.output.trans hB2.output, by rw [hPw.size]; exact hB2.size, fun i hi _ hx => (hPw.other i hx).trans (hB2.block i hi), fun _ _ h => h⟩
   have hU4 : U8 w4 A2 (dn + n) c2' (xs ++ ys) := by
    refine HU2.out.wrote hPw ?_
    rcases HA2.out with ⟨h0, e1, _⟩ | ⟨g', e1, hg'⟩
    ·subst h0 e1
     exact hDg.imp (by omega) id
    ·exact .inr ⟨_, e1, by show g' ≠ g; have : w.heap.size ≤ g' := hg'; omega⟩
   have hPl4 : Pl A2 (dn + n) := by
    rcases HA2.out with ⟨h0, e1, _⟩ | ⟨g', e1, hg'⟩
    ·subst h0 e1
     exact hPl
    ·exact .inr ⟨_, _, e1⟩
   have hfin : ∀ w5, Wrote g w4 w5 → w5.heap[g]? = some (.cells (trV true en 8 (!tg) z ln L (.slice A2 (dn + n) c2') ((dn + n : Nat) : Int) er (lastB n dn ln) 0) 47 (0, 0)) → RecvEnd g en tg z ln L DA dn dc n (xs ++ ys) er w (.returned (.tuple #[])) w5 := by
    intro w5 hW5 h5
    have hx5 : Mx (fun i => i = g) no w no w5 := ⟨hW5.os.trans hmx.os, hW5.tape.trans hmx.tape, hW5.output.trans hmx.output, by rw [hW5.size]; exact hmx.size, fun i hi hs hx => (hW5.other i hx).trans (hmx.block i hi hs hx), hmx.sub⟩
    refine ⟨⟨_, rfl⟩, hx5, .inr ⟨by omega, A2, c2', h5, hU4.wrote hW5 ?_, hPl4, ?_⟩⟩
    ·rcases HA2.out with ⟨h0, e1, _⟩ | ⟨g', e1, hg'⟩
     ·subst h0 e1
      exact hDg.imp (by omega) id
     ·exact .inr ⟨_, e1, by show g' ≠ g; have : w.heap.size ≤ g' := hg'; omega⟩
    ·rcases HA2.out with ⟨h0, e1, e2⟩ | ⟨g', e1, hg'⟩
     ·exact .inl ⟨h0, e1, e2⟩
     ·exact .inr ⟨g', e1, hg'⟩
   have HF := Lib.hid hfin
   have HG4 := Lib.hid hg4
   have hend2 := fun (w' : World) (h : w'.heap[g]? = some (.cells (trV true en 8 (!tg) z ln L (.slice A2 (dn + n) c2') ((dn + n : Nat) : Int) er false 0) 47 (0, 0))) => end_ret g true en 8 (!tg) z ln L (.slice A2 (dn + n) c2') ((dn + n : Nat) : Int) er false 0 0 w' h
   unfold trV at hg4
   have k2 := cell_of hg4 2
   have k6 := cell_of hg4 6
   have k9 := cell_of hg4 9
   clear hfin hU4 hPl4 hmx hPh hPw
   by_cases hl1 : n < 8
   ·have e1 : lastB n dn ln = true := by unfold lastB; simp [hl1]
    have q3 : (n : Int) < 8 := by omega
    go_region
    all_goals
     go_wp2_with fail
     refine (hend2 _ (by exact HG4.out)).mono ?_
     rintro e' w' ⟨⟨v, rfl⟩, hW, hh⟩
     go_wp2_with fail
     go_end0
     exact HF.out _ ⟨hW.os, hW.tape, hW.output, hW.size, hW.other⟩ (by rw [e1]; exact hh)
   ·have q3 : ¬ (n : Int) < 8 := by omega
    by_cases hl2 : dn + n = ln
    ·have e1 : lastB n dn ln = true := by unfold lastB; simp [hl2]
     have q4 : (((dn + n : Nat) : Int) == (ln : Int)) = true := by simp; omega
     go_region
     all_goals
      go_wp2_with fail
      refine (hend2 _ (by exact HG4.out)).mono ?_
      rintro e' w' ⟨⟨v, rfl⟩, hW, hh⟩
      go_wp2_with fail
      go_end0
      exact HF.out _ ⟨hW.os, hW.tape, hW.output, hW.size, hW.other⟩ (by rw [e1]; exact hh)
    ·have e1 : lastB n dn ln = false := by unfold lastB; simp [hl1, hl2]
     have q4 : (((dn + n : Nat) : Int) == (ln : Int)) = false := by simp; omega
     have q5 : ¬ (((dn + n : Nat) : Int) = (ln : Int)) := by omega
     go_region
     all_goals
      go_wp2_with fail
      go_end0
      exact HF.out _ ⟨rfl, rfl, rfl, rfl, fun _ _ => rfl⟩ (by rw [e1]; exact HG4.out)
end Go.Proofs.YtiajboiobjfcoaaGreatDoor
