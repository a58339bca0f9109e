/-
  What is proved here: what Set.Use leaves for the law's three endpoints, and what is found in its table.
  Conditions: what the endpoints' cells hold.
-/
import Derived.Test.YthifcblajimppaaDNew
namespace Go.Proofs.Ythifcblajimppaa
open Go.Proofs Go.RowKit
attribute [local go_sem] lt2 lt3 lt4 lt5
theorem map_miss {t k e : TypeId} (K : WideMaps.KeyLaw Try.prog k) (ht : Try.prog.underlying t = some (.map k e)) (hz : ∀ w, (zeroValue e).run Try.prog w = .ok (.pointer none) w) {b clock : Nat} {es : Array MapEntry} {w : World} (hb : w.heap[b]? = some (.map es clock)) {key : Value} {kl : Lit} (hkey : keyOf Try.prog k key = some kl)
  (hes : ∀ x ∈ es.toList, (∃ l, keyOf Try.prog k x.key = some l) ∧ x.key ≠ key) :
  (Instr.lookup t (.map (some b)) key false).run Try.prog w = .ok (.pointer none) w := by
 have hm := MapKept.run_getObj_map (P := Try.prog) hb
 have hc := K.check w es.isEmpty hkey
 rcases K.find w hkey es.toList (fun x hx => (hes x hx).1) with ⟨h1, _⟩ | ⟨j, x, h1, h2, h3⟩
 ·simp [Instr.lookup, run_underlying ht, hm, hc, h1, hz w]
 ·exact absurd h3 (hes x (List.mem_of_getElem? h2)).2
def kyV (num : Int) (inn : Bool) : Value := .agg #[.int .u8 num, .bool inn]
def ents (I O N : Nat) : Nat → Array MapEntry
 | 0 => #[]
 | 1 => #[⟨kyV 1 true, .pointer (some ⟨I, 0, none⟩), 0⟩]
 | 2 => #[⟨kyV 1 true, .pointer (some ⟨I, 0, none⟩), 0⟩, ⟨kyV 2 false, .pointer (some ⟨O, 0, none⟩), 1⟩]
 | _ => #[⟨kyV 1 true, .pointer (some ⟨I, 0, none⟩), 0⟩, ⟨kyV 2 false, .pointer (some ⟨O, 0, none⟩), 1⟩, ⟨kyV 3 true, .pointer (some ⟨N, 0, none⟩), 2⟩]
theorem key1 : ∃ l, keyOf Try.prog 100 (kyV 1 true) = some l := Option.isSome_iff_exists.1 (by kernel_rfl)
theorem key2 : ∃ l, keyOf Try.prog 100 (kyV 2 false) = some l := Option.isSome_iff_exists.1 (by kernel_rfl)
theorem key3 : ∃ l, keyOf Try.prog 100 (kyV 3 true) = some l := Option.isSome_iff_exists.1 (by kernel_rfl)
theorem ne12 : kyV 1 true ≠ kyV 2 false := by intro h; simp [kyV] at h
theorem ne13 : kyV 1 true ≠ kyV 3 true := by intro h; simp [kyV] at h
theorem ne23 : kyV 2 false ≠ kyV 3 true := by intro h; simp [kyV] at h
theorem ends_at (I O N m : Nat) (w : World) (h : w.heap[m]? = some (.map (ents I O N 3) 3)) : EndsAt (some m) I O w := by
 obtain ⟨l1, k1⟩ := key1
 obtain ⟨l2, k2⟩ := key2
 obtain ⟨l3, k3⟩ := key3
 have hes : ∀ x ∈ (ents I O N 3).toList, ∃ l, keyOf Try.prog 100 x.key = some l := by
  intro x hx
  simp only [ents, List.mem_cons, List.not_mem_nil, or_false] at hx
  rcases hx with rfl | rfl | rfl
  ·exact ⟨_, k1⟩
  ·exact ⟨_, k2⟩
  ·exact ⟨_, k3⟩
 refine ⟨map_get (e := 50) law_key Try.underlying92 h k1 hes ⟨_, List.Mem.head _, rfl⟩ ?_, map_get (e := 50) law_key Try.underlying92 h k2 hes ⟨_, List.Mem.tail _ (List.Mem.head _), rfl⟩ ?_⟩
 ·intro x hx hk
  simp only [ents, List.mem_cons, List.not_mem_nil, or_false] at hx
  rcases hx with rfl | rfl | rfl
  ·rfl
  ·exact absurd hk.symm ne12
  ·exact absurd hk.symm ne13
 ·intro x hx hk
  simp only [ents, List.mem_cons, List.not_mem_nil, or_false] at hx
  rcases hx with rfl | rfl | rfl
  ·exact absurd hk ne12
  ·rfl
  ·exact absurd hk.symm ne23
theorem ents_put (I O N m k : Nat) (hk : k < 3) (w : World) (h : w.heap[m]? = some (.map (ents I O N k) k)) (key val : Value) (hkv : (k = 0 ∧ key = kyV 1 true ∧ val = .pointer (some ⟨I, 0, none⟩)) ∨ (k = 1 ∧ key = kyV 2 false ∧ val = .pointer (some ⟨O, 0, none⟩)) ∨ (k = 2 ∧ key = kyV 3 true ∧ val = .pointer (some ⟨N, 0, none⟩))) :
  (Instr.lookup 92 (.map (some m)) key false).run Try.prog w = .ok (.pointer none) w ∧
  ∃ w', (Instr.mapUpdate 92 (.map (some m)) key val).run Try.prog w = .ok () w' ∧ Wrote m w w' ∧ w'.heap[m]? = some (.map (ents I O N (k + 1)) (k + 1)) := by
 obtain ⟨l1, k1⟩ := key1
 obtain ⟨l2, k2⟩ := key2
 obtain ⟨l3, k3⟩ := key3
 have hz : ∀ w, (zeroValue 50).run Try.prog w = .ok (.pointer none) w := fun w => by simp [go_sem]
 rcases hkv with ⟨rfl, rfl, rfl⟩ | ⟨rfl, rfl, rfl⟩ | ⟨rfl, rfl, rfl⟩
 ·have hes : ∀ x ∈ (ents I O N 0).toList, (∃ l, keyOf Try.prog 100 x.key = some l) ∧ x.key ≠ kyV 1 true := fun x hx => nomatch hx
  exact ⟨map_miss law_key Try.underlying92 hz h k1 hes, map_put law_key Try.underlying92 h _ k1 hes⟩
 ·have hes : ∀ x ∈ (ents I O N 1).toList, (∃ l, keyOf Try.prog 100 x.key = some l) ∧ x.key ≠ kyV 2 false := by
   intro x hx
   simp only [ents, List.mem_cons, List.not_mem_nil, or_false] at hx
   subst hx
   exact ⟨⟨_, k1⟩, ne12⟩
  exact ⟨map_miss law_key Try.underlying92 hz h k2 hes, map_put law_key Try.underlying92 h _ k2 hes⟩
 ·have hes : ∀ x ∈ (ents I O N 2).toList, (∃ l, keyOf Try.prog 100 x.key = some l) ∧ x.key ≠ kyV 3 true := by
   intro x hx
   simp only [ents, List.mem_cons, List.not_mem_nil, or_false] at hx
   rcases hx with rfl | rfl
   ·exact ⟨⟨_, k1⟩, ne13⟩
   ·exact ⟨⟨_, k2⟩, ne23⟩
  exact ⟨map_miss law_key Try.underlying92 hz h k3 hes, map_put law_key Try.underlying92 h _ k3 hes⟩
def E3 (I O N mx : Nat) (w : World) : Prop :=
 w.heap[I]? = some (.cells (epC none 0 0 0 none 0 0 1 true 2 mx false false) 91 (0, 0)) ∧ w.heap[O]? = some (.cells (epC none 0 0 0 none 0 0 2 false 2 mx false false) 91 (0, 0)) ∧ w.heap[N]? = some (.cells (epC none 0 0 0 none 0 0 3 true 3 16 false false) 91 (0, 0))
theorem E3.below {I O N mx : Nat} {w w' : World} (h : E3 I O N mx w) (hb : Below w.heap.size w w') : E3 I O N mx w' := ⟨heap_below h.1 hb, heap_below h.2.1 hb, heap_below h.2.2 hb⟩
theorem mk_map (w : World) : (Instr.makeMap 92 (some (.int .i64 3))).run Try.prog w = .ok (.map (some w.heap.size)) (w.alloc (.map #[] 0)) := by
 simp [Instr.makeMap, run_underlying Try.underlying92]; rfl
def eAt (I O N : Nat) (k : Nat) : Nat := if k = 0 then I else if k = 1 then O else N
def nAt (k : Nat) : Int := if k = 0 then 1 else if k = 1 then 2 else 3
def iAt (k : Nat) : Bool := if k = 0 then true else if k = 1 then false else true
def kAt (k : Nat) : Int := if k = 2 then 3 else 2
def mAt (mx k : Nat) : Nat := if k = 2 then 16 else mx
theorem E3.at_ {I O N mx : Nat} {w : World} (h : E3 I O N mx w) {k : Nat} (hk : k < 3) : w.heap[eAt I O N k]? = some (.cells (epC none 0 0 0 none 0 0 (nAt k) (iAt k) (kAt k) (mAt mx k) false false) 91 (0, 0)) := by
 obtain rfl | rfl | rfl : k = 0 ∨ k = 1 ∨ k = 2 := by omega
 ·exact h.1
 ·exact h.2.1
 ·exact h.2.2
def UseEnd (s I O N : Nat) (w : World) (e : Ending) (w' : World) : Prop :=
 ∃ m, e = .returned (.int .i64 0) ∧ w.heap.size ≤ m ∧ w'.heap[m]? = some (.map (ents I O N 3) 3) ∧ w'.heap[s]? = some (.cells (setC (some m) 0 none) 98 (0, 0)) ∧ Mv (fun i => i = s) w (fun i => i = s) w'
set_option maxHeartbeats 8000000 in
set_option maxRecDepth 100000 in
theorem use_ret (s I O N b mx : Nat) (w : World) (hm : 1 ≤ mx) (hE : E3 I O N mx w) (hb : w.heap[b]? = some (.cells #[.pointer (some ⟨I, 0, none⟩), .pointer (some ⟨O, 0, none⟩), .pointer (some ⟨N, 0, none⟩)] 50 (0, 0)))
  (hS : w.heap[s]? = some (.cells #[.bool true, .int .u8 0, .map none, .nilIface, .int .u8 0, .pointer none] 98 (0, 0))) :
  Calls Try.prog 17 #[.pointer (some ⟨s, 0, none⟩), .slice (some ⟨b, 0, none⟩) 3 3] w (UseEnd s I O N w) := by
 have hn := setnone_ret s w (cell_of hS 0)
 have b0 := cell_of hb 0
 have b1 := cell_of hb 1
 have b2 := cell_of hb 2
 have e1 := epnone_ret I mx w (by omega) (cell_of hE.1 6)
 have e2 := epnone_ret O mx w (by omega) (cell_of hE.2.1 6)
 have e3 := epnone_ret N 16 w (by omega) (cell_of hE.2.2 6)
 have HE := Lib.hid hE
 have HB := Lib.hid hb
 have HS := Lib.hid hS
 clear hE hb hS
 go_enter Try.func17, Try.ntmps17
 go_wp2_with fail
 refine hn.mono ?_
 rintro e w0 ⟨rfl, hw0⟩
 rw [hw0]
 clear hw0 hn
 go_upto_block 0 with fail
 go_cut [] from 6 to 21 (fun wx => wx = w)
 case first =>
  go_wp2_with fail
  go_loopw [15] (fun i wr => wr = w ∧ ∃ k : Nat, i = .int .i64 k ∧ k ≤ 3) (fun i _ => 3 - (intOf i).toNat)
  case atStart => exact ⟨rfl, 0, rfl, by omega⟩
  case round =>
   obtain ⟨rfl, k, rfl, hk⟩ := hrel
   obtain rfl | rfl | rfl | rfl : k = 0 ∨ k = 1 ∨ k = 2 ∨ k = 3 := by omega
   ·go_wp2_with fail
    refine e1.mono ?_
    rintro e w0 ⟨rfl, hw0⟩
    rw [hw0]
    clear hw0
    go_wp2_with fail
    go_roundw
    case rel => exact ⟨trivial, 1, rfl, by omega⟩
    case measure => simp [intOf]
   ·go_wp2_with fail
    refine e2.mono ?_
    rintro e w0 ⟨rfl, hw0⟩
    rw [hw0]
    clear hw0
    go_wp2_with fail
    go_roundw
    case rel => exact ⟨trivial, 2, rfl, by omega⟩
    case measure => simp [intOf]
   ·go_wp2_with fail
    refine e3.mono ?_
    rintro e w0 ⟨rfl, hw0⟩
    rw [hw0]
    clear hw0
    go_wp2_with fail
    go_roundw
    case rel => exact ⟨trivial, 3, rfl, by omega⟩
    case measure => simp [intOf]
   ·go_wp2_with fail
    go_meet
    rfl
 case rest =>
 have hwx := hcut
 rw [hwx]
 clear hwx hcut
 clear e1 e2 e3
 have hmm := mk_map
 have hm0 := heap_alloc_new w (.map #[] 0)
 have hbm : Below w.heap.size w (w.alloc (.map #[] 0)) := (Below.refl _ _).alloc (Nat.le_refl _) _
 go_upto_block 2 with fail
 obtain ⟨w1, hw1⟩ : ∃ w1, w.alloc (.map #[] 0) = w1 := ⟨_, rfl⟩
 rw [hw1] at hm0 hbm ⊢
 have hbI := Lib.hid hbm
 have hM0 := Lib.hid hm0
 have hEm : w.heap.size < w1.heap.size := (Array.getElem?_eq_some_iff.1 hm0).1
 clear hw1 hbm hm0 hmm
 go_cut [] from 9 to 49 (fun wx => Below w.heap.size w wx ∧ wx.heap[w.heap.size]? = some (.map (ents I O N 3) 3))
 case first =>
  go_wp2_with fail
  go_loopw [27] (fun i wr => ∃ k : Nat, i = .int .i64 k ∧ k ≤ 3 ∧ Below w.heap.size w wr ∧ wr.heap[w.heap.size]? = some (.map (ents I O N k) k)) (fun i _ => 3 - (intOf i).toNat)
  case atStart => exact ⟨0, rfl, by omega, hbI.out, hM0.out⟩
  case round =>
   obtain ⟨k, rfl, hk, hbr, hmr⟩ := hrel
   by_cases hk3 : k = 3
   ·subst hk3
    have H1 := Lib.hid hbr
    have H2 := Lib.hid hmr
    clear hbr hmr
    go_wp2_with fail
    go_meet
    exact ⟨H1.out, H2.out⟩
   have q1 : (k : Int) < 3 := by omega
   have hk3 : k < 3 := by omega
   have hbr0 := heap_below HB.out hbr
   have bk : wr.cell? ⟨b, k, none⟩ = some (.pointer (some ⟨eAt I O N k, 0, none⟩)) := by
    obtain rfl | rfl | rfl : k = 0 ∨ k = 1 ∨ k = 2 := by omega
    ·exact cell_of hbr0 0
    ·exact cell_of hbr0 1
    ·exact cell_of hbr0 2
   have heK := (HE.out.below hbr).at_ hk3
   have hX := heK
   unfold epC at hX
   have c3 := cell_of hX 3
   have c4 := cell_of hX 4
   have d3 := fun o => (World.cell?_alloc_lt wr o _ (World.block_lt_of_cell? _ _ c3)).trans c3
   have d4 := fun o => (World.cell?_alloc_lt wr o _ (World.block_lt_of_cell? _ _ c4)).trans c4
   have H1 := Lib.hid hbr
   have H2 := Lib.hid hmr
   clear hX heK hbr0 hbr hmr
   go_upto_region 13 with fail
   go_cut [10] from 31 to 41 (fun v wx => ∃ bx, v = .pointer (some ⟨bx, 0, none⟩) ∧ wx.heap[bx]? = some (.cells #[.int .u8 (nAt k), .bool (iAt k)] 100 (0, 0)) ∧ Below wr.heap.size wr wx)
   case first =>
    go_upto_region 13 with fail
    go_region
    all_goals
     go_wp2_with fail
     go_meet
     exact ⟨_, rfl, heap_alloc_new wr _, ((Below.refl _ _).alloc (Nat.le_refl _) _).drew⟩
   case rest =>
    obtain ⟨bx, rfl, hbx, hb2⟩ := hcut
    have u0 := cell_of hbx 0
    have u1 := cell_of hbx 1
    obtain ⟨hlk, w5, hput, hW5, hM5⟩ := ents_put I O N w.heap.size k hk3 wc (heap_below H2.out hb2) (.agg #[.int .u8 (nAt k), .bool (iAt k)]) (.pointer (some ⟨eAt I O N k, 0, none⟩)) (by
     obtain rfl | rfl | rfl : k = 0 ∨ k = 1 ∨ k = 2 := by omega
     ·exact .inl ⟨rfl, rfl, rfl⟩
     ·exact .inr (.inl ⟨rfl, rfl, rfl⟩)
     ·exact .inr (.inr ⟨rfl, rfl, rfl⟩))
    have hb5 : Below w.heap.size w w5 := (H1.out.trans (hb2.mono H1.out.size)).trans (hW5.below (Nat.le_refl _))
    have H5 := Lib.hid hb5
    have HM5 := Lib.hid hM5
    clear hbx hb2 hW5 hM5 hb5 d3 d4 c3 c4
    go_wp2_with fail
    go_roundw
    case rel => exact ⟨k + 1, by push_cast; rfl, by omega, H5.out, HM5.out⟩
    case measure => simp [intOf]; omega
 case rest =>
 obtain ⟨hb6, hM6⟩ := hcut
 have hS6 := heap_below HS.out hb6
 have x2 := cell_of hS6 2
 have x4 := cell_of hS6 4
 have x5 := cell_of hS6 5
 have g2 := frozen_of hS6 2
 have g4 := frozen_of hS6 4
 have g5 := frozen_of hS6 5
 have H6 := Lib.hid hb6
 have HM6 := Lib.hid hM6
 have HS6 := Lib.hid hS6
 clear hb6 hM6 hS6 b0 b1 b2
 go_wp2_with fail
 go_ret
 have hP := (((Put1.refl HS6.out).set 2 (.map (some w.heap.size))).set 4 (.int .u8 0)).set 5 (.pointer none)
 have hW := hP.wrote
 have hsl := (Array.getElem?_eq_some_iff.1 HS.out).1
 have hbb := H6.out
 exact ⟨w.heap.size, rfl, Nat.le_refl _, (hW.other _ (by omega)).trans HM6.out, hP.heap, ⟨hW.os.trans hbb.os, hW.tape.trans hbb.tape, hW.output.trans hbb.output, by have := hW.size; have := hbb.size; omega, fun i hi hs => (hW.other i hs).trans (hbb.block i hi), fun _ _ h => h⟩⟩
end Go.Proofs.Ythifcblajimppaa
