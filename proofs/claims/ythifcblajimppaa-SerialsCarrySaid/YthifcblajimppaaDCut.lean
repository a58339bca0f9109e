/-
  What is proved here: slices.Clone and queue.cut, with the room that the new slice has.
  Conditions: what the cells hold.
-/
import Derived.Test.YthifcblajimppaaDTaken
namespace Go.Proofs.Ythifcblajimppaa
open Go.Proofs Go.RowKit
attribute [local go_sem] lt2 lt3 lt4 lt5
theorem row_of_own {w : World} {base : Nat} {e : TypeId} {v : Value} {n : Nat} {xs : List Value} (h : w.ownsRow base e 1 v n xs) (h1 : ∀ u ∈ xs, u.oneCell' = true) : ∃ A c, v = .slice A n c ∧ RowAt w e A n c xs ∧ ∀ a, A = some a → base ≤ a.block := by
 obtain ⟨hl, ⟨rfl, h0⟩ | ⟨g, cap, cur, rfl, hge, hh, hc, hcm, hsz, htk⟩⟩ := h
 ·exact ⟨none, 0, by rw [h0], ⟨by omega, by omega, h1, .inl ⟨rfl, h0, rfl⟩⟩, fun a h => nomatch h⟩
 ·refine ⟨_, cap, rfl, ⟨by omega, hc, h1, .inr ⟨g, 0, cur, rfl, hh, by omega, fun j hj => ?_⟩⟩, fun a h => by cases h; exact hge⟩
  rw [← htk, List.getElem?_take, if_pos (by omega), Nat.zero_add]
  simp
def RowB (w : World) (A : Option Addr) (n c : Nat) (xs : List Int) : Prop := RowAt w 5 A n c (xs.map (Value.int .u8)) ∧ ∀ x ∈ xs, 0 ≤ x ∧ x ≤ 255
theorem RowB.u8 {w : World} {A : Option Addr} {n c : Nat} {xs : List Int} (h : RowB w A n c xs) : U8 w A n c xs := by
 obtain ⟨hr, h2⟩ := h
 have hr0 := hr
 obtain ⟨h1, h3, _, h4⟩ := hr
 refine ⟨by simpa using h1, h2, h3, h4.imp id ?_⟩
 rintro ⟨b, off, cs, rfl, _⟩
 refine ⟨_, rfl, fun j hj => ?_⟩
 rw [hr0.cell hj, List.getElem?_map]
 have : j < xs.length := by have := h1; simp at this; omega
 rw [List.getElem?_eq_getElem this]
 rfl
def ClonedR (w : World) (xs : List Int) (e : Ending) (w' : World) : Prop :=
 Below w.heap.size w w' ∧ ∃ A' c', e = .returned (.slice A' xs.length c') ∧ RowAt w' 5 A' xs.length c' (xs.map (Value.int .u8)) ∧ ∀ a, A' = some a → w.heap.size ≤ a.block
set_option maxHeartbeats 2000000 in
theorem sclone_row (A : Option Addr) (n c : Nat) (xs : List Int) (w : World) (hx : U8 w A n c xs) (hn : n ≤ 65536) :
  Calls Try.prog 39 #[.slice A n c] w (ClonedR w xs) := by
 obtain ⟨i0, hi, hz0, hz1, hz2⟩ := info_parts info5
 obtain ⟨h1, h2, h3, ⟨rfl, rfl, rfl⟩ | ⟨a, rfl, h5⟩⟩ := hx
 ·have hnil := fun (w : World) => Lib.run_eql_slice_nil (P := Try.prog) w 33 5 none 0 0 0 0 Try.underlying33
  go_enter Try.func39, Try.ntmps39
  go_wp2
  go_ret
  obtain rfl : xs = [] := List.length_eq_zero_iff.1 h1
  exact ⟨Below.refl _ _, none, 0, rfl, RowAt.nil _ _, fun _ h => nomatch h⟩
 have hnil := fun (w : World) => Lib.run_eql_slice_nil (P := Try.prog) w 33 5 (some a) n c 0 0 Try.underlying33
 go_enter Try.func39, Try.ntmps39
 go_wp2_with (at_builtin; refine wpList_append_own _ rfl (.tmp 5) (.tmp 6) 33 rfl w.heap.size 5 i0 (.int .u8 0) 1 1 Try.underlying33 hi hz0 hz1 hz2 rfl (by decide) _ 0 [] rfl ?own a n c (xs.map (Value.int .u8)) rfl ?c1 ?c2 ?c3 ?c4 ?c5 ?c6 ?_)
 case own => exact World.ownsRow_made w #[] 0 (Nat.le_refl _) (by decide) rfl
 case c1 => simp [h1]
 case c2 =>
  intro j u hj
  rw [List.getElem?_map, Option.map_eq_some_iff] at hj
  obtain ⟨x, hx, rfl⟩ := hj
  have hjn : j < n := by rw [← h1]; exact (List.getElem?_eq_some_iff.1 hx).1
  have hcx := h5 j hjn
  rw [hx] at hcx
  rw [World.cell?_alloc_lt _ _ _ (World.block_lt_of_cell? _ _ hcx)]
  exact hcx
 case c3 =>
  intro u hu
  obtain ⟨x, _, rfl⟩ := List.mem_map.1 hu
  rfl
 case c4 => unfold maxLen; omega
 case c5 => omega
 case c6 => simp
 intro v' w1 hown hgrow hnn
 have hb1 : Below w.heap.size w w1 := ((Below.refl _ _).alloc (Nat.le_refl _) _).grown hgrow (by simp) (fun k hk => by simp [Value.ownBlock] at hk; omega)
 have hv : v' ≠ .slice none 0 0 := hnn
 have hl : (0 : Nat) + n = n := by omega
 obtain ⟨A', c', rfl, hR, hg⟩ := row_of_own (by simpa [h1] using hown) (fun u hu => by
  obtain ⟨x, _, rfl⟩ := List.mem_map.1 hu
  rfl)
 clear hown hgrow hnn hv hnil
 go_wp2
 go_ret
 subst h1
 exact ⟨hb1, A', c', rfl, hR, hg⟩
theorem RowB.drop {w : World} {b off n c m : Nat} {xs : List Int} (h : RowB w (some ⟨b, off, none⟩) n c xs) (hm : m ≤ n) : U8 w (some ⟨b, off + m, none⟩) (n - m) (c - m) (xs.drop m) := by
 have hu := h.u8
 obtain ⟨h1, h2, h3, ⟨h4, _⟩ | ⟨a, e, h5⟩⟩ := hu
 ·cases h4
 cases e
 refine ⟨by rw [List.length_drop, h1], fun x hx => h2 x (List.mem_of_mem_drop hx), by omega, .inr ⟨_, rfl, fun j hj => ?_⟩⟩
 have := h5 (m + j) (by omega)
 rw [show (⟨b, off + m, none⟩ : Addr).add j = (⟨b, off, none⟩ : Addr).add (m + j) by unfold Addr.add; split <;> split <;> simp_all <;> omega, this, List.getElem?_drop]
def CutEnd (P k mm : Nat) (cs : Array Value) (xs : List Int) (w : World) (e : Ending) (w' : World) : Prop :=
 ∃ A1 c1 A2 c2, e = .returned (.slice A1 (xs.take mm).length c1) ∧ RowAt w' 5 A1 (xs.take mm).length c1 ((xs.take mm).map (Value.int .u8)) ∧ (∀ a, A1 = some a → w.heap.size ≤ a.block) ∧
  w'.heap[P]? = some (.cells (cs.setIfInBounds k (.slice A2 (xs.drop mm).length c2)) 67 (0, 0)) ∧ RowAt w' 5 A2 (xs.drop mm).length c2 ((xs.drop mm).map (Value.int .u8)) ∧ (∀ a, A2 = some a → w.heap.size ≤ a.block) ∧ Mv (fun i => i = P) w (fun i => i = P) w'
set_option maxHeartbeats 4000000 in
theorem cut_ret (P k mm : Nat) (cs : Array Value) (b off n c : Nat) (xs : List Int) (w : World) (hP : w.heap[P]? = some (.cells cs 67 (0, 0))) (hk : cs[k]? = some (.slice (some ⟨b, off, none⟩) n c)) (hR : RowB w (some ⟨b, off, none⟩) n c xs) (hn : n ≤ 65536) (M : Nat) (hM : min M n = mm) :
  Calls Try.prog 25 #[.pointer (some ⟨P, k, none⟩), .int .i64 M] w (CutEnd P k mm cs xs w) := by
 have hb : w.cell? ⟨P, k, none⟩ = some (.slice (some ⟨b, off, none⟩) n c) := (cell_of hP k).trans hk
 have hnc := hR.1.2.1
 have hmm : mm ≤ n := by omega
 have q1 : decide ((mm : Int) ≤ (n : Int)) = true := by simp; omega
 have q2 : (mm : Int) ≤ (n : Int) := by omega
 have q3 : (mm : Int) ≤ (c : Int) := by omega
 have q4 : (n : Int) ≤ (c : Int) := by omega
 have hcl := sclone_row (some ⟨b, off, none⟩) mm c (xs.take mm) w (hR.u8.take hmm) (by omega)
 have HP := Lib.hid hP
 have HR := Lib.hid hR
 have HK := Lib.hid hk
 have HM := Lib.hid hM
 clear hP hR hk
 go_enter Try.func25, Try.ntmps25
 go_upto_region 2 with fail
 rw [show min (M : Int) (n : Int) = (mm : Int) by omega]
 go_wp2_with fail
 refine hcl.mono ?_
 rintro e w1 ⟨hb1, A1, c1, rfl, hR1, hA1⟩
 have hP1 := heap_below HP.out hb1
 have hb' : w1.cell? ⟨P, k, none⟩ = some (.slice (some ⟨b, off, none⟩) n c) := (cell_of hP1 k).trans HK.out
 have hRw := (HR.out.drop hmm).below hb1
 have hPl := (Array.getElem?_eq_some_iff.1 HP.out).1
 have hxl : xs.length = n := HR.out.u8.1
 have HX := Lib.hid hxl
 clear hcl hb hxl
 have hfin : ∀ A2 c2 w2 w3, Below w1.heap.size w1 w2 → RowAt w2 5 A2 (xs.drop mm).length c2 ((xs.drop mm).map (Value.int .u8)) → (∀ a, A2 = some a → w1.heap.size ≤ a.block) → Wrote P w2 w3 → w3.heap[P]? = some (.cells (cs.setIfInBounds k (.slice A2 (xs.drop mm).length c2)) 67 (0, 0)) → CutEnd P k mm cs xs w (.returned (.slice A1 (xs.take mm).length c1)) w3 := by
  intro A2 c2 w2 w3 hb2 hR2 hA2 hW h3
  have hs1 := hb1.size
  have hs2 := hb2.size
  refine ⟨A1, c1, A2, c2, rfl, (hR1.keep (fun a e => hb2.block _ ?_)).keep (fun a e => hW.other _ (by have := hA1 a e; omega)), hA1, h3, hR2.keep (fun a e => hW.other _ (by have := hA2 a e; omega)), fun a e => by have := hA2 a e; omega, ⟨hW.os.trans (hb2.os.trans hb1.os), hW.tape.trans (hb2.tape.trans hb1.tape), hW.output.trans (hb2.output.trans hb1.output), by have := hW.size; omega, fun i hi hs => (hW.other i hs).trans ((hb2.block i (by omega)).trans (hb1.block i hi)), fun _ _ h => h⟩⟩
  obtain ⟨_, _, _, ⟨h4, _⟩ | ⟨b', off', cs', e', h5, _⟩⟩ := hR1
  ·rw [h4] at e; cases e
  ·rw [e'] at e; cases e
   exact (Array.getElem?_eq_some_iff.1 h5).1
 by_cases h1 : c = mm
 ·have q5 : ((c : Int) == (mm : Int)) = true := by simp; omega
  go_wp2_with fail
  refine (sclone_row (some ⟨b, off, none⟩) (n - mm) 0 (xs.drop mm) w1 ⟨by rw [List.length_drop, HX.out], hRw.2.1, by omega, .inr ⟨_, rfl, fun j hj => by omega⟩⟩ (by omega)).mono ?_
  rintro e w2 ⟨hb2, A2, c2, rfl, hR2, hA2⟩
  have hP2 := heap_below hP1 hb2
  have hb3 : w2.cell? ⟨P, k, none⟩ = some (.slice (some ⟨b, off, none⟩) n c) := (cell_of hP2 k).trans HK.out
  have f3 := frozen_of hP2 k
  have hF := hfin A2 c2 w2 (w2.setCell ⟨P, k, none⟩ (.slice A2 (xs.drop mm).length c2)) hb2 hR2 hA2 (((Put1.refl hP2).set k (.slice A2 (xs.drop mm).length c2)).wrote) (((Put1.refl hP2).set k (.slice A2 (xs.drop mm).length c2)).heap)
  simp only [List.length_take, List.length_drop] at hF
  have HF := Lib.hid hF
  clear hF hfin hR2 hA2 hb'
  go_wp2_with fail
  go_ret
  exact HF.out
 ·have q5 : ((c : Int) == (mm : Int)) = false := by simp; omega
  go_wp2_with fail
  refine (sclone_row (some ⟨b, off + mm, none⟩) (n - mm) (c - mm) (xs.drop mm) w1 hRw (by omega)).mono ?_
  rintro e w2 ⟨hb2, A2, c2, rfl, hR2, hA2⟩
  have hP2 := heap_below hP1 hb2
  have hb3 : w2.cell? ⟨P, k, none⟩ = some (.slice (some ⟨b, off, none⟩) n c) := (cell_of hP2 k).trans HK.out
  have f3 := frozen_of hP2 k
  have hF := hfin A2 c2 w2 (w2.setCell ⟨P, k, none⟩ (.slice A2 (xs.drop mm).length c2)) hb2 hR2 hA2 (((Put1.refl hP2).set k (.slice A2 (xs.drop mm).length c2)).wrote) (((Put1.refl hP2).set k (.slice A2 (xs.drop mm).length c2)).heap)
  simp only [List.length_take, List.length_drop] at hF
  have HF := Lib.hid hF
  clear hF hfin hR2 hA2 hb'
  go_wp2_with fail
  go_ret
  exact HF.out
set_option maxHeartbeats 4000000 in
theorem cut_nil (P k : Nat) (cs : Array Value) (w : World) (hP : w.heap[P]? = some (.cells cs 67 (0, 0))) (hk : cs[k]? = some (.slice none 0 0)) (M : Nat) :
  Calls Try.prog 25 #[.pointer (some ⟨P, k, none⟩), .int .i64 M] w (CutEnd P k 0 cs [] w) := by
 have hb : w.cell? ⟨P, k, none⟩ = some (.slice none 0 0) := (cell_of hP k).trans hk
 have hf := frozen_of hP k
 have hU : U8 w none 0 0 [] := ⟨rfl, (fun _ h => nomatch h), Nat.le_refl _, .inl ⟨rfl, rfl, rfl⟩⟩
 have hcl := sclone_row none 0 0 [] w hU (by omega)
 have HP := Lib.hid hP
 have HK := Lib.hid hk
 have HU := Lib.hid hU
 clear hP hk hU
 go_enter Try.func25, Try.ntmps25
 go_upto_region 2 with fail
 rw [show min (M : Int) (0 : Int) = 0 by omega]
 go_wp2_with fail
 refine hcl.mono ?_
 rintro e w1 ⟨hb1, A1, c1, rfl, hR1, hA1⟩
 have hP1 := heap_below HP.out hb1
 have hb' : w1.cell? ⟨P, k, none⟩ = some (.slice none 0 0) := (cell_of hP1 k).trans HK.out
 have hPl := (Array.getElem?_eq_some_iff.1 HP.out).1
 clear hcl hb
 go_wp2_with fail
 refine (sclone_row none 0 0 [] w1 ⟨rfl, (fun _ h => nomatch h), Nat.le_refl _, .inl ⟨rfl, rfl, rfl⟩⟩ (by omega)).mono ?_
 rintro e w2 ⟨hb2, A2, c2, rfl, hR2, hA2⟩
 have hP2 := heap_below hP1 hb2
 have hb3 : w2.cell? ⟨P, k, none⟩ = some (.slice none 0 0) := (cell_of hP2 k).trans HK.out
 have f3 := frozen_of hP2 k
 have hs1 := hb1.size
 have hs2 := hb2.size
 have hW := ((Put1.refl hP2).set k (.slice A2 0 c2)).wrote
 have h3 := ((Put1.refl hP2).set k (.slice A2 0 c2)).heap
 have hF : CutEnd P k 0 cs [] w (.returned (.slice A1 0 c1)) (w2.setCell ⟨P, k, none⟩ (.slice A2 0 c2)) := by
  refine ⟨A1, c1, A2, c2, rfl, (hR1.keep (fun a e => hb2.block _ ?_)).keep (fun a e => hW.other _ (by have := hA1 a e; omega)), hA1, h3, hR2.keep (fun a e => hW.other _ (by have := hA2 a e; omega)), fun a e => by have := hA2 a e; omega, ⟨hW.os.trans (hb2.os.trans hb1.os), hW.tape.trans (hb2.tape.trans hb1.tape), hW.output.trans (hb2.output.trans hb1.output), by have := hW.size; omega, fun i hi hs => (hW.other i hs).trans ((hb2.block i (by omega)).trans (hb1.block i hi)), fun _ _ h => h⟩⟩
  obtain ⟨_, _, _, ⟨h4, _⟩ | ⟨b', off', cs', e', h5, _⟩⟩ := hR1
  ·rw [h4] at e; cases e
  ·rw [e'] at e; cases e
   exact (Array.getElem?_eq_some_iff.1 h5).1
 have HF := Lib.hid hF
 clear hb' hR1 hR2 hA1 hA2 hW h3 hF
 go_wp2_with fail
 go_ret
 exact HF.out
end Go.Proofs.Ythifcblajimppaa
