/-
  What is proved here: what pipes.Answer returns for an isochronous work that sends.
  Conditions: what the packets' and the pieces' cells hold.
-/
import Derived.Test.YtiajboiobjfcoaaGreatDoorIAns
import Derived.Test.YtiajboiobjfcoaaGreatDoorICat
namespace Go.Proofs.YtiajboiobjfcoaaGreatDoor
open Go.Proofs Go.RowKit
attribute [local go_sem] lt2 lt3 lt4 lt5
set_option maxHeartbeats 8000000 in
set_option maxRecDepth 1000000 in
theorem ans_out (ad en mx per sp hu po m0 : Int) (tg ha : Bool) (many xn xc pc im ic : Nat) (PA XA IA : Option Addr) (out : Int) (vs : List Value) (bs : List (List Int)) (us : List Value) (A : Option Addr) (n c : Nat) (xs : List Int) (w : World)
  (hx : xn < many) (hm : many ≤ 256) (hA : Sls w PA many pc vs) (hb : B8s w vs bs) (hX : Pcs w XA xn xc us) (hU : U8 w A n c xs) (hn : (n : Int) ≤ mx) (hmx : mx ≤ 1024) (hout : 0 ≤ out ∧ out ≤ 1000000000) (hbl : ∀ b ∈ bs, b.length ≤ 65536) :
  Calls Tryz.prog 19 #[.agg #[.bool true, .int .u8 ad, .int .u8 en, .bool false, .int .u8 1, .int .i64 mx, .int .i64 per, .int .u8 sp, .int .u8 hu, .int .u8 po, .bool tg, .bool ha, .int .u8 0, .int .u8 0, .int .u8 0, .int .u16 0, .int .u16 0, .int .u16 0, .slice none 0 0, .int .i64 0, .bool false, .int .i64 0, .slice none 0 0, .int .i64 0, .int .i64 0, .bool false, .int .u8 0, .int .i64 0, .bool false, .slice none 0 0, .bool false, .int .i64 0, .slice none 0 0, .slice none 0 0, .int .i64 0, .int .i64 0, .bool false, .int .i64 0, .bool false, .int .u8 en, .int .i64 mx, .slice PA many pc, .int .i64 m0, .int .i64 (many : Int), .slice XA xn xc, .slice IA im ic, .int .i64 out], .agg #[.int .u8 1, .slice A n c]] w fun e w' => Below w.heap.size w w' ∧
   ∃ b XA' xc', bs[xn]? = some b ∧ e = .returned (.agg #[.bool true, .int .u8 ad, .int .u8 en, .bool false, .int .u8 1, .int .i64 mx, .int .i64 per, .int .u8 sp, .int .u8 hu, .int .u8 po, .bool tg, .bool ha, .int .u8 0, .int .u8 0, .int .u8 0, .int .u16 0, .int .u16 0, .int .u16 0, .slice none 0 0, .int .i64 0, .bool false, .int .i64 0, .slice none 0 0, .int .i64 0, .int .i64 0, .bool false, .int .u8 0, .int .i64 0, .bool false, .slice none 0 0, .bool false, .int .i64 0, .slice none 0 0, .slice none 0 0, .int .i64 0, .int .i64 0, .bool false, .int .i64 0, .bool false, .int .u8 en, .int .i64 mx, .slice PA many pc, .int .i64 m0, .int .i64 (many : Int), .slice XA' (xn + 1) xc', .slice IA im ic, .int .i64 (out + (b.length : Int))]) ∧ Pcs w' XA' (xn + 1) xc' (us ++ [.int .i64 0, .slice none 0 0]) ∧ ∃ g, XA' = some ⟨g, 0, none⟩ ∧ w.heap.size ≤ g := by
 have hb3 : ∀ a b c, Below w.heap.size w (((w.alloc a).alloc b).alloc c) := fun a b c => (((Below.refl w.heap.size w).alloc (Nat.le_refl _) a).alloc (by simp) b).alloc (by simp; omega) c
 go_enter Tryz.func19, Tryz.ntmps19
 go_upto_region 1 with fail
 obtain ⟨w0, hw0⟩ : ∃ w0, ((w.alloc (.cells #[.bool true, .int .u8 ad, .int .u8 en, .bool false, .int .u8 1, .int .i64 mx, .int .i64 per, .int .u8 sp, .int .u8 hu, .int .u8 po, .bool tg, .bool ha, .int .u8 0, .int .u8 0, .int .u8 0, .int .u16 0, .int .u16 0, .int .u16 0, .slice none 0 0, .int .i64 0, .bool false, .int .i64 0, .slice none 0 0, .int .i64 0, .int .i64 0, .bool false, .int .u8 0, .int .i64 0, .bool false, .slice none 0 0, .bool false, .int .i64 0, .slice none 0 0, .slice none 0 0, .int .i64 0, .int .i64 0, .bool false, .int .i64 0, .bool false, .int .u8 en, .int .i64 mx, .slice PA many pc, .int .i64 m0, .int .i64 (many : Int), .slice XA xn xc, .slice IA im ic, .int .i64 out] 54)).alloc (.cells #[.int .u8 1, .slice A n c] 86)).alloc (.cells #[.bool false, .int .u8 0, .int .u8 0, .bool false, .int .u8 0, .int .i64 0, .int .i64 0, .int .u8 0, .int .u8 0, .int .u8 0, .bool false, .bool false, .int .u8 0, .int .u8 0, .int .u8 0, .int .u16 0, .int .u16 0, .int .u16 0, .slice none 0 0, .int .i64 0, .bool false, .int .i64 0, .slice none 0 0, .int .i64 0, .int .i64 0, .bool false, .int .u8 0, .int .i64 0, .bool false, .slice none 0 0, .bool false, .int .i64 0, .slice none 0 0, .slice none 0 0, .int .i64 0, .int .i64 0, .bool false, .int .i64 0, .bool false, .int .u8 0, .int .i64 0, .slice none 0 0, .int .i64 0, .int .i64 0, .slice none 0 0, .slice none 0 0, .int .i64 0] 54) = w0 := ⟨_, rfl⟩
 have hb0 : Below w.heap.size w w0 := by rw [← hw0]; exact hb3 _ _ _
 have hX0 : w0.heap[w.heap.size]? = some (.cells #[.bool true, .int .u8 ad, .int .u8 en, .bool false, .int .u8 1, .int .i64 mx, .int .i64 per, .int .u8 sp, .int .u8 hu, .int .u8 po, .bool tg, .bool ha, .int .u8 0, .int .u8 0, .int .u8 0, .int .u16 0, .int .u16 0, .int .u16 0, .slice none 0 0, .int .i64 0, .bool false, .int .i64 0, .slice none 0 0, .int .i64 0, .int .i64 0, .bool false, .int .u8 0, .int .i64 0, .bool false, .slice none 0 0, .bool false, .int .i64 0, .slice none 0 0, .slice none 0 0, .int .i64 0, .int .i64 0, .bool false, .int .i64 0, .bool false, .int .u8 en, .int .i64 mx, .slice PA many pc, .int .i64 m0, .int .i64 (many : Int), .slice XA xn xc, .slice IA im ic, .int .i64 out] 54 (0, 0)) := by rw [← hw0]; exact alloc3_0 _ _ _ _
 have hX1 : w0.heap[w.heap.size + 1]? = some (.cells #[.int .u8 1, .slice A n c] 86 (0, 0)) := by rw [← hw0]; exact alloc3_1 _ _ _ _
 have hX2 : w0.heap[w.heap.size + 1 + 1]? = some (.cells #[.bool false, .int .u8 0, .int .u8 0, .bool false, .int .u8 0, .int .i64 0, .int .i64 0, .int .u8 0, .int .u8 0, .int .u8 0, .bool false, .bool false, .int .u8 0, .int .u8 0, .int .u8 0, .int .u16 0, .int .u16 0, .int .u16 0, .slice none 0 0, .int .i64 0, .bool false, .int .i64 0, .slice none 0 0, .int .i64 0, .int .i64 0, .bool false, .int .u8 0, .int .i64 0, .bool false, .slice none 0 0, .bool false, .int .i64 0, .slice none 0 0, .slice none 0 0, .int .i64 0, .int .i64 0, .bool false, .int .i64 0, .bool false, .int .u8 0, .int .i64 0, .slice none 0 0, .int .i64 0, .int .i64 0, .slice none 0 0, .slice none 0 0, .int .i64 0] 54 (0, 0)) := by rw [← hw0]; exact alloc3_2 _ _ _ _
 rw [hw0]
 clear hw0 hb3
 obtain ⟨b, hbx⟩ : ∃ b, bs[xn]? = some b := by
  have : xn < bs.length := by rw [← hb.1, hA.1]; exact hx
  exact ⟨_, List.getElem?_eq_getElem this⟩
 have hnext := pipe_next ad en false mx per sp hu po tg ha (.int .u8 0) (.int .u8 0) (.int .u8 0) (.int .u16 0) (.int .u16 0) (.int .u16 0) (.slice none 0 0) (.int .i64 0) (.bool false) (.int .i64 0) (.slice none 0 0) (.int .i64 0) (.int .i64 0) (.bool false) (.int .u8 0) (.int .i64 0) (.bool false) (.slice none 0 0) (.bool false) (.int .i64 0) (.slice none 0 0) (.slice none 0 0) (.int .i64 0) (.int .i64 0) (.bool false) (.int .i64 0) (.bool false) (.int .u8 en) (.int .i64 mx) (.slice PA many pc) (.int .i64 m0) (.int .i64 (many : Int)) (.slice XA xn xc) (.slice IA im ic) (.int .i64 out) en 1 false true 0 b w0 (fun w' hbw => by
  refine (pn_out en mx m0 many xn xc pc PA XA vs bs w' hx (hA.below (hb0.trans (hbw.mono hb0.size))) (hb.below (hb0.trans (hbw.mono hb0.size)))).mono ?_
  rintro e w2 ⟨b', g, c', hb', rfl, hf, hg, hbel⟩
  rw [hbx] at hb'
  cases hb'
  exact ⟨hbel, _, _, _, rfl, ⟨hf.u8, .inr ⟨_, rfl, hg⟩⟩, .inr ⟨_, _, rfl⟩⟩)
 have hbl' := hbl b (List.mem_of_getElem? hbx)
 have HBX := Lib.hid hbx
 clear hbx
 go_wp2_with (guard_target =~ wpList _ _ _ (_ :: _) _ _; refine wpList_load_row rfl (.tmp 2) 54 rfl w.heap.size 54 _ _ rfl hX0 Tryz.underlying54 rfl (by kernel_rfl) ?_)
 refine hnext.mono ?_
 clear hnext
 rintro e w1 ⟨hb1, TA, tn, tc, rfl, hN, _⟩
 have hfar : tn = 0 ∨ ∃ a, TA = some a ∧ w0.heap.size ≤ a.block := hN.2
 have htl : b.length = tn := hN.1.1
 clear hN hfar
 go_upto_region 4 with fail
 obtain ⟨w2, hw2⟩ : ∃ w2, w1.alloc (.cells #[.int .u8 ad, .int .u8 en, .int .u8 1, .bool false, .bool true, .int .i64 0, .slice TA tn tc] 80) = w2 := ⟨_, rfl⟩
 have hb2 : Below w1.heap.size w1 w2 := by rw [← hw2]; exact (Below.refl _ _).alloc (Nat.le_refl _) _
 have hTb : w2.heap[w1.heap.size]? = some (.cells #[.int .u8 ad, .int .u8 en, .int .u8 1, .bool false, .bool true, .int .i64 0, .slice TA tn tc] 80 (0, 0)) := by rw [← hw2]; exact heap_alloc_new w1 _
 rw [hw2]
 clear hw2
 have hsz1 : w.heap.size + 1 + 1 < w1.heap.size := by have := hb1.size; have := (Array.getElem?_eq_some_iff.1 hX2).1; omega
 have hb12 := hb1.trans (hb2.mono hb1.size)
 replace hX0 := heap_below hX0 hb12
 replace hX1 := heap_below hX1 hb12
 replace hX2 := heap_below hX2 hb12
 have hbw := hb0.trans (hb12.mono hb0.size)
 have hsz2 : w1.heap.size < w2.heap.size := (Array.getElem?_eq_some_iff.1 hTb).1
 clear hb0 hb1 hb2 hb12
 have k4 := cell_of hX0 4
 have k38 := cell_of hX0 38
 have k39 := cell_of hX0 39
 have k40 := cell_of hX0 40
 have k41 := cell_of hX0 41
 have k42 := cell_of hX0 42
 have k43 := cell_of hX0 43
 have k44 := cell_of hX0 44
 have hX' : Pcs w2 XA xn xc us := ⟨hX.1, hX.2.1, hX.2.2.imp id fun ⟨a, e, h⟩ => ⟨a, e, fun j v hj => (hbw.cell (World.block_lt_of_cell? _ _ (h j v hj))).trans (h j v hj)⟩⟩
 have hpa := pa_ret false en mx m0 many xn xc many pc PA XA us 1 A n c xs w2 (.inl rfl) hX' hx hm (hU.below hbw) hn hmx
 clear hX' hX hU hA hb
 go_upto_region 9 with fail
 go_wp2_with (guard_target =~ wpList _ _ _ (_ :: _) _ _; refine wpList_load_row rfl (.tmp 3) 86 rfl (w.heap.size + 1) 86 _ _ rfl hX1 Tryz.underlying86 rfl (by kernel_rfl) ?_)
 refine hpa.mono ?_
 clear hpa
 rintro e w3 ⟨XA', xc', D, rfl, hP3, hb3, ⟨gX, rfl, hgX⟩, hD⟩
 obtain rfl : D = .slice none 0 0 := by
  rcases hD with ⟨_, h, _⟩ | ⟨_, h⟩
  ·cases h
  ·exact h
 clear hD k4 k38 k39 k40 k41 k42 k43 k44
 replace hX0 := heap_below hX0 hb3
 replace hX1 := heap_below hX1 hb3
 replace hX2 := heap_below hX2 hb3
 replace hTb := heap_below hTb hb3
 replace hbw := hbw.trans (hb3.mono hbw.size)
 clear hb3
 go_wp2_with (guard_target =~ wpList _ _ _ (_ :: _) _ _; first
  | (refine wpList_store_row rfl (.tmp 36) (.tmp 35) 52 rfl w.heap.size 38 54 _ _ #[.bool true, .int .u8 ad, .int .u8 en, .bool false, .int .u8 1, .int .i64 mx, .int .i64 per, .int .u8 sp, .int .u8 hu, .int .u8 po, .bool tg, .bool ha, .int .u8 0, .int .u8 0, .int .u8 0, .int .u16 0, .int .u16 0, .int .u16 0, .slice none 0 0, .int .i64 0, .bool false, .int .i64 0, .slice none 0 0, .int .i64 0, .int .i64 0, .bool false, .int .u8 0, .int .i64 0, .bool false, .slice none 0 0, .bool false, .int .i64 0, .slice none 0 0, .slice none 0 0, .int .i64 0, .int .i64 0, .bool false, .int .i64 0, .bool false, .int .u8 en, .int .i64 mx, .slice PA many pc, .int .i64 m0, .int .i64 (many : Int), .slice (some ⟨gX, 0, none⟩) (xn + 1) xc', .slice IA im ic, .int .i64 out] rfl rfl hX0 (by kernel_rfl) (by simp) rfl rfl ?_; intro w4 hZ4 hW4; have hX14 := (hW4.other (w.heap.size + 1) (by omega)).trans hX1; have hX24 := (hW4.other (w.heap.size + 1 + 1) (by omega)).trans hX2; have hT4 := (hW4.other w1.heap.size (by omega)).trans hTb; have o0 := cell_of hX14 0; have t2 := cell_of hT4 2; have t6 := cell_of hT4 6; have z46 := cell_of hZ4 46; have f46 := frozen_of hZ4 46; have hwr : IntKind.i64.wrap (out + (tn : Int)) = out + (tn : Int) := IntWalk.i64_in _ (by omega); have hS : (w4.setCell ⟨w.heap.size, 46, none⟩ (.int .i64 (out + (tn : Int)))).heap[w.heap.size]? = some (.cells #[.bool true, .int .u8 ad, .int .u8 en, .bool false, .int .u8 1, .int .i64 mx, .int .i64 per, .int .u8 sp, .int .u8 hu, .int .u8 po, .bool tg, .bool ha, .int .u8 0, .int .u8 0, .int .u8 0, .int .u16 0, .int .u16 0, .int .u16 0, .slice none 0 0, .int .i64 0, .bool false, .int .i64 0, .slice none 0 0, .int .i64 0, .int .i64 0, .bool false, .int .u8 0, .int .i64 0, .bool false, .slice none 0 0, .bool false, .int .i64 0, .slice none 0 0, .slice none 0 0, .int .i64 0, .int .i64 0, .bool false, .int .i64 0, .bool false, .int .u8 en, .int .i64 mx, .slice PA many pc, .int .i64 m0, .int .i64 (many : Int), .slice (some ⟨gX, 0, none⟩) (xn + 1) xc', .slice IA im ic, .int .i64 (out + (tn : Int))] 54 (0, 0)) := setCell_heap hZ4 46 _; have hW5 := (Wrote.refl w.heap.size w4).setCell 46 (.int .i64 (out + (tn : Int))); have hX25 := (hW5.other (w.heap.size + 1 + 1) (by omega)).trans hX24)
  | refine wpList_load_row rfl (.tmp 2) 54 rfl w.heap.size 54 _ _ rfl hS Tryz.underlying54 rfl (by kernel_rfl) ?_
  | (refine wpList_store_row rfl (.tmp 4) (.tmp 61) 54 rfl (w.heap.size + 1 + 1) 0 54 _ _ #[.bool true, .int .u8 ad, .int .u8 en, .bool false, .int .u8 1, .int .i64 mx, .int .i64 per, .int .u8 sp, .int .u8 hu, .int .u8 po, .bool tg, .bool ha, .int .u8 0, .int .u8 0, .int .u8 0, .int .u16 0, .int .u16 0, .int .u16 0, .slice none 0 0, .int .i64 0, .bool false, .int .i64 0, .slice none 0 0, .int .i64 0, .int .i64 0, .bool false, .int .u8 0, .int .i64 0, .bool false, .slice none 0 0, .bool false, .int .i64 0, .slice none 0 0, .slice none 0 0, .int .i64 0, .int .i64 0, .bool false, .int .i64 0, .bool false, .int .u8 en, .int .i64 mx, .slice PA many pc, .int .i64 m0, .int .i64 (many : Int), .slice (some ⟨gX, 0, none⟩) (xn + 1) xc', .slice IA im ic, .int .i64 (out + (tn : Int))] rfl rfl hX25 (by kernel_rfl) (by simp) rfl rfl ?_; intro w6 hZ6 hW6))
 refine ret_one _ _ _ _ rfl rfl hZ6 Tryz.underlying54 rfl (by kernel_rfl) rfl ⟨((hbw.trans (hW4.below (Nat.le_refl _))).trans (hW5.below (Nat.le_refl _))).trans (hW6.below (by omega)), b, HBX.out, some ⟨gX, 0, none⟩, xc', by rw [htl], ?_, gX, rfl, by omega⟩
 obtain ⟨h1, h2, ⟨h3, _⟩ | ⟨a, e, h3⟩⟩ := hP3
 ·cases h3
 cases e
 have hgs : w.heap.size + 1 + 1 < gX := by omega
 exact ⟨h1, h2, .inr ⟨_, rfl, fun j v hj => (hW6.cell (by rw [add_block']; show gX ≠ _; omega)).trans ((hW5.cell (by rw [add_block']; show gX ≠ _; omega)).trans ((hW4.cell (by rw [add_block']; show gX ≠ _; omega)).trans (h3 j v hj)))⟩⟩
set_option maxHeartbeats 8000000 in
set_option maxRecDepth 1000000 in
theorem ans_in1 (ad en mx per sp hu po m0 : Int) (tg ha : Bool) (many xn xc pn pc im ic : Nat) (PA XA IA : Option Addr) (out : Int) (ins : List Int) (us : List Value) (A : Option Addr) (n c : Nat) (xs : List Int) (w : World)
  (hx : xn < many) (hm : many ≤ 256) (hX : Pcs w XA xn xc us) (hU : U8 w A n c xs) (hI : U8 w IA im ic ins) (hn : (n : Int) ≤ mx) (hmx : mx ≤ 1024) (him : im ≤ 1024) :
  Calls Tryz.prog 19 #[.agg #[.bool true, .int .u8 ad, .int .u8 en, .bool true, .int .u8 1, .int .i64 mx, .int .i64 per, .int .u8 sp, .int .u8 hu, .int .u8 po, .bool tg, .bool ha, .int .u8 0, .int .u8 0, .int .u8 0, .int .u16 0, .int .u16 0, .int .u16 0, .slice none 0 0, .int .i64 0, .bool false, .int .i64 0, .slice none 0 0, .int .i64 0, .int .i64 0, .bool false, .int .u8 0, .int .i64 0, .bool false, .slice none 0 0, .bool false, .int .i64 0, .slice none 0 0, .slice none 0 0, .int .i64 0, .int .i64 0, .bool false, .int .i64 0, .bool true, .int .u8 en, .int .i64 mx, .slice PA pn pc, .int .i64 m0, .int .i64 (many : Int), .slice XA xn xc, .slice IA im ic, .int .i64 out], .agg #[.int .u8 1, .slice A n c]] w fun e w' => Below w.heap.size w w' ∧
   ∃ XA' xc' g c' IA' ic', e = .returned (.agg #[.bool true, .int .u8 ad, .int .u8 en, .bool true, .int .u8 1, .int .i64 mx, .int .i64 per, .int .u8 sp, .int .u8 hu, .int .u8 po, .bool tg, .bool ha, .int .u8 0, .int .u8 0, .int .u8 0, .int .u16 0, .int .u16 0, .int .u16 0, .slice none 0 0, .int .i64 0, .bool false, .int .i64 0, .slice none 0 0, .int .i64 0, .int .i64 0, .bool false, .int .u8 0, .int .i64 0, .bool false, .slice none 0 0, .bool false, .int .i64 0, .slice none 0 0, .slice none 0 0, .int .i64 0, .int .i64 0, .bool false, .int .i64 0, .bool true, .int .u8 en, .int .i64 mx, .slice PA pn pc, .int .i64 m0, .int .i64 (many : Int), .slice XA' (xn + 1) xc', .slice IA' (im + n) ic', .int .i64 out]) ∧ Pcs w' XA' (xn + 1) xc' (us ++ [.int .i64 0, .slice (some ⟨g, 0, none⟩) xs.length c']) ∧ F8 w' g xs.length c' xs ∧ w.heap.size ≤ g ∧ w'.ownsRow w.heap.size 5 1 (.slice IA' (im + n) ic') (im + n) ((ins ++ xs).map (Value.int .u8)) ∧ ∃ g, XA' = some ⟨g, 0, none⟩ ∧ w.heap.size ≤ g := by
 have hb3 : ∀ a b c, Below w.heap.size w (((w.alloc a).alloc b).alloc c) := fun a b c => (((Below.refl w.heap.size w).alloc (Nat.le_refl _) a).alloc (by simp) b).alloc (by simp; omega) c
 go_enter Tryz.func19, Tryz.ntmps19
 go_upto_region 1 with fail
 obtain ⟨w0, hw0⟩ : ∃ w0, ((w.alloc (.cells #[.bool true, .int .u8 ad, .int .u8 en, .bool true, .int .u8 1, .int .i64 mx, .int .i64 per, .int .u8 sp, .int .u8 hu, .int .u8 po, .bool tg, .bool ha, .int .u8 0, .int .u8 0, .int .u8 0, .int .u16 0, .int .u16 0, .int .u16 0, .slice none 0 0, .int .i64 0, .bool false, .int .i64 0, .slice none 0 0, .int .i64 0, .int .i64 0, .bool false, .int .u8 0, .int .i64 0, .bool false, .slice none 0 0, .bool false, .int .i64 0, .slice none 0 0, .slice none 0 0, .int .i64 0, .int .i64 0, .bool false, .int .i64 0, .bool true, .int .u8 en, .int .i64 mx, .slice PA pn pc, .int .i64 m0, .int .i64 (many : Int), .slice XA xn xc, .slice IA im ic, .int .i64 out] 54)).alloc (.cells #[.int .u8 1, .slice A n c] 86)).alloc (.cells #[.bool false, .int .u8 0, .int .u8 0, .bool false, .int .u8 0, .int .i64 0, .int .i64 0, .int .u8 0, .int .u8 0, .int .u8 0, .bool false, .bool false, .int .u8 0, .int .u8 0, .int .u8 0, .int .u16 0, .int .u16 0, .int .u16 0, .slice none 0 0, .int .i64 0, .bool false, .int .i64 0, .slice none 0 0, .int .i64 0, .int .i64 0, .bool false, .int .u8 0, .int .i64 0, .bool false, .slice none 0 0, .bool false, .int .i64 0, .slice none 0 0, .slice none 0 0, .int .i64 0, .int .i64 0, .bool false, .int .i64 0, .bool false, .int .u8 0, .int .i64 0, .slice none 0 0, .int .i64 0, .int .i64 0, .slice none 0 0, .slice none 0 0, .int .i64 0] 54) = w0 := ⟨_, rfl⟩
 have hb0 : Below w.heap.size w w0 := by rw [← hw0]; exact hb3 _ _ _
 have hX0 : w0.heap[w.heap.size]? = some (.cells #[.bool true, .int .u8 ad, .int .u8 en, .bool true, .int .u8 1, .int .i64 mx, .int .i64 per, .int .u8 sp, .int .u8 hu, .int .u8 po, .bool tg, .bool ha, .int .u8 0, .int .u8 0, .int .u8 0, .int .u16 0, .int .u16 0, .int .u16 0, .slice none 0 0, .int .i64 0, .bool false, .int .i64 0, .slice none 0 0, .int .i64 0, .int .i64 0, .bool false, .int .u8 0, .int .i64 0, .bool false, .slice none 0 0, .bool false, .int .i64 0, .slice none 0 0, .slice none 0 0, .int .i64 0, .int .i64 0, .bool false, .int .i64 0, .bool true, .int .u8 en, .int .i64 mx, .slice PA pn pc, .int .i64 m0, .int .i64 (many : Int), .slice XA xn xc, .slice IA im ic, .int .i64 out] 54 (0, 0)) := by rw [← hw0]; exact alloc3_0 _ _ _ _
 have hX1 : w0.heap[w.heap.size + 1]? = some (.cells #[.int .u8 1, .slice A n c] 86 (0, 0)) := by rw [← hw0]; exact alloc3_1 _ _ _ _
 have hX2 : w0.heap[w.heap.size + 1 + 1]? = some (.cells #[.bool false, .int .u8 0, .int .u8 0, .bool false, .int .u8 0, .int .i64 0, .int .i64 0, .int .u8 0, .int .u8 0, .int .u8 0, .bool false, .bool false, .int .u8 0, .int .u8 0, .int .u8 0, .int .u16 0, .int .u16 0, .int .u16 0, .slice none 0 0, .int .i64 0, .bool false, .int .i64 0, .slice none 0 0, .int .i64 0, .int .i64 0, .bool false, .int .u8 0, .int .i64 0, .bool false, .slice none 0 0, .bool false, .int .i64 0, .slice none 0 0, .slice none 0 0, .int .i64 0, .int .i64 0, .bool false, .int .i64 0, .bool false, .int .u8 0, .int .i64 0, .slice none 0 0, .int .i64 0, .int .i64 0, .slice none 0 0, .slice none 0 0, .int .i64 0] 54 (0, 0)) := by rw [← hw0]; exact alloc3_2 _ _ _ _
 rw [hw0]
 clear hw0 hb3
 have hnext := pipe_next ad en true mx per sp hu po tg ha (.int .u8 0) (.int .u8 0) (.int .u8 0) (.int .u16 0) (.int .u16 0) (.int .u16 0) (.slice none 0 0) (.int .i64 0) (.bool false) (.int .i64 0) (.slice none 0 0) (.int .i64 0) (.int .i64 0) (.bool false) (.int .u8 0) (.int .i64 0) (.bool false) (.slice none 0 0) (.bool false) (.int .i64 0) (.slice none 0 0) (.slice none 0 0) (.int .i64 0) (.int .i64 0) (.bool false) (.int .i64 0) (.bool true) (.int .u8 en) (.int .i64 mx) (.slice PA pn pc) (.int .i64 m0) (.int .i64 (many : Int)) (.slice XA xn xc) (.slice IA im ic) (.int .i64 out) en 9 false true mx [] w0 (fun w' hbw => by
  refine (pn_in en mx m0 many xn xc pn pc PA XA w' hx).mono ?_
  rintro e w2 ⟨rfl, hbel⟩
  exact ⟨hbel, _, _, _, rfl, ⟨(D8.nil w2 no).1, .inl rfl⟩, .inl rfl⟩)
 go_wp2_with (guard_target =~ wpList _ _ _ (_ :: _) _ _; refine wpList_load_row rfl (.tmp 2) 54 rfl w.heap.size 54 _ _ rfl hX0 Tryz.underlying54 rfl (by kernel_rfl) ?_)
 refine hnext.mono ?_
 clear hnext
 rintro e w1 ⟨hb1, TA, tn, tc, rfl, hN, _⟩
 clear hN
 go_upto_region 4 with fail
 obtain ⟨w2, hw2⟩ : ∃ w2, w1.alloc (.cells #[.int .u8 ad, .int .u8 en, .int .u8 9, .bool false, .bool true, .int .i64 mx, .slice TA tn tc] 80) = w2 := ⟨_, rfl⟩
 have hb2 : Below w1.heap.size w1 w2 := by rw [← hw2]; exact (Below.refl _ _).alloc (Nat.le_refl _) _
 have hTb : w2.heap[w1.heap.size]? = some (.cells #[.int .u8 ad, .int .u8 en, .int .u8 9, .bool false, .bool true, .int .i64 mx, .slice TA tn tc] 80 (0, 0)) := by rw [← hw2]; exact heap_alloc_new w1 _
 rw [hw2]
 clear hw2
 have hsz1 : w.heap.size + 1 + 1 < w1.heap.size := by have := hb1.size; have := (Array.getElem?_eq_some_iff.1 hX2).1; omega
 have hb12 := hb1.trans (hb2.mono hb1.size)
 replace hX0 := heap_below hX0 hb12
 replace hX1 := heap_below hX1 hb12
 replace hX2 := heap_below hX2 hb12
 have hbw := hb0.trans (hb12.mono hb0.size)
 have hsz2 : w1.heap.size < w2.heap.size := (Array.getElem?_eq_some_iff.1 hTb).1
 clear hb0 hb1 hb2 hb12
 have k4 := cell_of hX0 4
 have k38 := cell_of hX0 38
 have k39 := cell_of hX0 39
 have k40 := cell_of hX0 40
 have k41 := cell_of hX0 41
 have k42 := cell_of hX0 42
 have k43 := cell_of hX0 43
 have k44 := cell_of hX0 44
 have hX' : Pcs w2 XA xn xc us := ⟨hX.1, hX.2.1, hX.2.2.imp id fun ⟨a, e, h⟩ => ⟨a, e, fun j v hj => (hbw.cell (World.block_lt_of_cell? _ _ (h j v hj))).trans (h j v hj)⟩⟩
 have hpa := pa_ret true en mx m0 many xn xc pn pc PA XA us 1 A n c xs w2 (.inl rfl) hX' hx hm (hU.below hbw) hn hmx
 clear hX' hX
 go_upto_region 9 with fail
 go_wp2_with (guard_target =~ wpList _ _ _ (_ :: _) _ _; refine wpList_load_row rfl (.tmp 3) 86 rfl (w.heap.size + 1) 86 _ _ rfl hX1 Tryz.underlying86 rfl (by kernel_rfl) ?_)
 refine hpa.mono ?_
 clear hpa
 rintro e w3 ⟨XA', xc', D, rfl, hP3, hb3, ⟨gX, rfl, hgX⟩, hD⟩
 clear k4 k38 k39 k40 k41 k42 k43 k44
 replace hX0 := heap_below hX0 hb3
 replace hX1 := heap_below hX1 hb3
 replace hX2 := heap_below hX2 hb3
 replace hTb := heap_below hTb hb3
 have hs2w : w.heap.size ≤ w2.heap.size := hbw.size
 replace hbw := hbw.trans (hb3.mono hbw.size)
 have hs23 := hb3.size
 clear hb3
 obtain ⟨gD, cD, rfl, hFD, hgD⟩ : ∃ g c, D = .slice (some ⟨g, 0, none⟩) xs.length c ∧ F8 w3 g xs.length c xs ∧ w2.heap.size ≤ g := by
  rcases hD with ⟨_, _, h⟩ | ⟨h, _⟩
  ·exact h
  ·exact absurd ⟨rfl, rfl⟩ h
 clear hD
 go_wp2_with (guard_target =~ wpList _ _ _ (_ :: _) _ _; (refine wpList_store_row rfl (.tmp 36) (.tmp 35) 52 rfl w.heap.size 38 54 _ _ #[.bool true, .int .u8 ad, .int .u8 en, .bool true, .int .u8 1, .int .i64 mx, .int .i64 per, .int .u8 sp, .int .u8 hu, .int .u8 po, .bool tg, .bool ha, .int .u8 0, .int .u8 0, .int .u8 0, .int .u16 0, .int .u16 0, .int .u16 0, .slice none 0 0, .int .i64 0, .bool false, .int .i64 0, .slice none 0 0, .int .i64 0, .int .i64 0, .bool false, .int .u8 0, .int .i64 0, .bool false, .slice none 0 0, .bool false, .int .i64 0, .slice none 0 0, .slice none 0 0, .int .i64 0, .int .i64 0, .bool false, .int .i64 0, .bool true, .int .u8 en, .int .i64 mx, .slice PA pn pc, .int .i64 m0, .int .i64 (many : Int), .slice (some ⟨gX, 0, none⟩) (xn + 1) xc', .slice IA im ic, .int .i64 out] rfl rfl hX0 (by kernel_rfl) (by simp) rfl rfl ?_; intro w4 hZ4 hW4; have hX14 := (hW4.other (w.heap.size + 1) (by omega)).trans hX1; have hX24 := (hW4.other (w.heap.size + 1 + 1) (by omega)).trans hX2; have hT4 := (hW4.other w1.heap.size (by omega)).trans hTb; have o0 := cell_of hX14 0; have o1 := cell_of hX14 1; have t2 := cell_of hT4 2; have z45 := cell_of hZ4 45))
 have hb4 := hbw.trans (hW4.below (Nat.le_refl _))
 refine (concat_ret w4.heap.size IA A im ic n c ins xs _ (heap_alloc_new w4 _) ((hI.below hb4).below ((Below.refl _ _).alloc (Nat.le_refl _) _)) ((hU.below hb4).below ((Below.refl _ _).alloc (Nat.le_refl _) _)) him (by omega)).mono ?_
 rintro e w5 ⟨hb5, T5, tm5, tc5, rfl, ho5⟩
 have hba : Below w4.heap.size w4 w5 := ((Below.refl _ w4).alloc (Nat.le_refl _) _).trans (hb5.mono (by simp))
 clear hb5 o0 o1 t2 z45
 obtain rfl : tm5 = im + n := by
  have := ho5.2
  rcases this with ⟨h, h0⟩ | ⟨g, cap, cur, h, _⟩
  ·injection h with _ h2 _; omega
  ·injection h with _ h2 _
 have hZ5 := heap_below hZ4 hba
 have hX25 := heap_below hX24 hba
 have f45 := frozen_of hZ5 45
 have y45 := cell_of hZ5 45
 have hs4 : w4.heap.size = w3.heap.size := hW4.size
 have hS : (w5.setCell ⟨w.heap.size, 45, none⟩ (.slice T5 (im + n) tc5)).heap[w.heap.size]? = some (.cells #[.bool true, .int .u8 ad, .int .u8 en, .bool true, .int .u8 1, .int .i64 mx, .int .i64 per, .int .u8 sp, .int .u8 hu, .int .u8 po, .bool tg, .bool ha, .int .u8 0, .int .u8 0, .int .u8 0, .int .u16 0, .int .u16 0, .int .u16 0, .slice none 0 0, .int .i64 0, .bool false, .int .i64 0, .slice none 0 0, .int .i64 0, .int .i64 0, .bool false, .int .u8 0, .int .i64 0, .bool false, .slice none 0 0, .bool false, .int .i64 0, .slice none 0 0, .slice none 0 0, .int .i64 0, .int .i64 0, .bool false, .int .i64 0, .bool true, .int .u8 en, .int .i64 mx, .slice PA pn pc, .int .i64 m0, .int .i64 (many : Int), .slice (some ⟨gX, 0, none⟩) (xn + 1) xc', .slice T5 (im + n) tc5, .int .i64 out] 54 (0, 0)) := setCell_heap hZ5 45 _
 have hW6 := (Wrote.refl w.heap.size w5).setCell 45 (.slice T5 (im + n) tc5)
 have hX26 := (hW6.other (w.heap.size + 1 + 1) (by omega)).trans hX25
 go_wp2_with (guard_target =~ wpList _ _ _ (_ :: _) _ _; first
  | refine wpList_load_row rfl (.tmp 2) 54 rfl w.heap.size 54 _ _ rfl hS Tryz.underlying54 rfl (by kernel_rfl) ?_
  | (refine wpList_store_row rfl (.tmp 4) (.tmp 61) 54 rfl (w.heap.size + 1 + 1) 0 54 _ _ #[.bool true, .int .u8 ad, .int .u8 en, .bool true, .int .u8 1, .int .i64 mx, .int .i64 per, .int .u8 sp, .int .u8 hu, .int .u8 po, .bool tg, .bool ha, .int .u8 0, .int .u8 0, .int .u8 0, .int .u16 0, .int .u16 0, .int .u16 0, .slice none 0 0, .int .i64 0, .bool false, .int .i64 0, .slice none 0 0, .int .i64 0, .int .i64 0, .bool false, .int .u8 0, .int .i64 0, .bool false, .slice none 0 0, .bool false, .int .i64 0, .slice none 0 0, .slice none 0 0, .int .i64 0, .int .i64 0, .bool false, .int .i64 0, .bool true, .int .u8 en, .int .i64 mx, .slice PA pn pc, .int .i64 m0, .int .i64 (many : Int), .slice (some ⟨gX, 0, none⟩) (xn + 1) xc', .slice T5 (im + n) tc5, .int .i64 out] rfl rfl hX26 (by kernel_rfl) (by simp) rfl rfl ?_; intro w7 hZ7 hW7))
 refine ret_one _ _ _ _ rfl rfl hZ7 Tryz.underlying54 rfl (by kernel_rfl) rfl ⟨((hb4.trans (hba.mono hb4.size)).trans (hW6.below (Nat.le_refl _))).trans (hW7.below (by omega)), some ⟨gX, 0, none⟩, xc', gD, cD, T5, tc5, rfl, ?_, ?_, by omega, ?_, gX, rfl, by omega⟩
 ·obtain ⟨h1, h2, ⟨h3, _⟩ | ⟨a, e, h3⟩⟩ := hP3
  ·cases h3
  cases e
  have hgs : w.heap.size + 1 + 1 < gX := by omega
  exact ⟨h1, h2, .inr ⟨_, rfl, fun j v hj => by
   have h := h3 j v hj
   have h' := (hW4.cell (by rw [add_block']; show gX ≠ _; omega)).trans h
   exact (hW7.cell (by rw [add_block']; show gX ≠ _; omega)).trans ((hW6.cell (by rw [add_block']; show gX ≠ _; omega)).trans ((hba.cell (World.block_lt_of_cell? _ _ h')).trans h'))⟩⟩
 ·refine hFD.heap fun o ho => ?_
  have h' := (hW4.other gD (by omega)).trans ho
  exact (hW7.other gD (by omega)).trans ((hW6.other gD (by omega)).trans (heap_below h' hba))
 ·rw [List.map_append] at ho5
  have ho := own_base ho5 (show w.heap.size ≤ _ by simp; omega)
  have hlt := own_ge ho5
  refine own_wg (own_wg ho hW6 (fun i hi => ?_)) hW7 (fun i hi => ?_)
  all_goals
   have h8 := hlt i hi
   simp at h8
   omega
set_option maxHeartbeats 8000000 in
set_option maxRecDepth 1000000 in
theorem ans_in4 (ad en mx per sp hu po m0 : Int) (tg ha : Bool) (many xn xc pn pc im ic : Nat) (PA XA IA : Option Addr) (out : Int) (us : List Value) (A : Option Addr) (n c : Nat) (xs : List Int) (w : World)
  (hx : xn < many) (hm : many ≤ 256) (hX : Pcs w XA xn xc us) (hU : U8 w A n c xs) (hn : (n : Int) ≤ mx) (hmx : mx ≤ 1024) :
  Calls Tryz.prog 19 #[.agg #[.bool true, .int .u8 ad, .int .u8 en, .bool true, .int .u8 1, .int .i64 mx, .int .i64 per, .int .u8 sp, .int .u8 hu, .int .u8 po, .bool tg, .bool ha, .int .u8 0, .int .u8 0, .int .u8 0, .int .u16 0, .int .u16 0, .int .u16 0, .slice none 0 0, .int .i64 0, .bool false, .int .i64 0, .slice none 0 0, .int .i64 0, .int .i64 0, .bool false, .int .u8 0, .int .i64 0, .bool false, .slice none 0 0, .bool false, .int .i64 0, .slice none 0 0, .slice none 0 0, .int .i64 0, .int .i64 0, .bool false, .int .i64 0, .bool true, .int .u8 en, .int .i64 mx, .slice PA pn pc, .int .i64 m0, .int .i64 (many : Int), .slice XA xn xc, .slice IA im ic, .int .i64 out], .agg #[.int .u8 4, .slice A n c]] w fun e w' => Below w.heap.size w w' ∧
   ∃ XA' xc', e = .returned (.agg #[.bool true, .int .u8 ad, .int .u8 en, .bool true, .int .u8 1, .int .i64 mx, .int .i64 per, .int .u8 sp, .int .u8 hu, .int .u8 po, .bool tg, .bool ha, .int .u8 0, .int .u8 0, .int .u8 0, .int .u16 0, .int .u16 0, .int .u16 0, .slice none 0 0, .int .i64 0, .bool false, .int .i64 0, .slice none 0 0, .int .i64 0, .int .i64 0, .bool false, .int .u8 0, .int .i64 0, .bool false, .slice none 0 0, .bool false, .int .i64 0, .slice none 0 0, .slice none 0 0, .int .i64 0, .int .i64 0, .bool false, .int .i64 0, .bool true, .int .u8 en, .int .i64 mx, .slice PA pn pc, .int .i64 m0, .int .i64 (many : Int), .slice XA' (xn + 1) xc', .slice IA im ic, .int .i64 out]) ∧ Pcs w' XA' (xn + 1) xc' (us ++ [.int .i64 11, .slice none 0 0]) ∧ ∃ g, XA' = some ⟨g, 0, none⟩ ∧ w.heap.size ≤ g := by
 have hb3 : ∀ a b c, Below w.heap.size w (((w.alloc a).alloc b).alloc c) := fun a b c => (((Below.refl w.heap.size w).alloc (Nat.le_refl _) a).alloc (by simp) b).alloc (by simp; omega) c
 go_enter Tryz.func19, Tryz.ntmps19
 go_upto_region 1 with fail
 obtain ⟨w0, hw0⟩ : ∃ w0, ((w.alloc (.cells #[.bool true, .int .u8 ad, .int .u8 en, .bool true, .int .u8 1, .int .i64 mx, .int .i64 per, .int .u8 sp, .int .u8 hu, .int .u8 po, .bool tg, .bool ha, .int .u8 0, .int .u8 0, .int .u8 0, .int .u16 0, .int .u16 0, .int .u16 0, .slice none 0 0, .int .i64 0, .bool false, .int .i64 0, .slice none 0 0, .int .i64 0, .int .i64 0, .bool false, .int .u8 0, .int .i64 0, .bool false, .slice none 0 0, .bool false, .int .i64 0, .slice none 0 0, .slice none 0 0, .int .i64 0, .int .i64 0, .bool false, .int .i64 0, .bool true, .int .u8 en, .int .i64 mx, .slice PA pn pc, .int .i64 m0, .int .i64 (many : Int), .slice XA xn xc, .slice IA im ic, .int .i64 out] 54)).alloc (.cells #[.int .u8 4, .slice A n c] 86)).alloc (.cells #[.bool false, .int .u8 0, .int .u8 0, .bool false, .int .u8 0, .int .i64 0, .int .i64 0, .int .u8 0, .int .u8 0, .int .u8 0, .bool false, .bool false, .int .u8 0, .int .u8 0, .int .u8 0, .int .u16 0, .int .u16 0, .int .u16 0, .slice none 0 0, .int .i64 0, .bool false, .int .i64 0, .slice none 0 0, .int .i64 0, .int .i64 0, .bool false, .int .u8 0, .int .i64 0, .bool false, .slice none 0 0, .bool false, .int .i64 0, .slice none 0 0, .slice none 0 0, .int .i64 0, .int .i64 0, .bool false, .int .i64 0, .bool false, .int .u8 0, .int .i64 0, .slice none 0 0, .int .i64 0, .int .i64 0, .slice none 0 0, .slice none 0 0, .int .i64 0] 54) = w0 := ⟨_, rfl⟩
 have hb0 : Below w.heap.size w w0 := by rw [← hw0]; exact hb3 _ _ _
 have hX0 : w0.heap[w.heap.size]? = some (.cells #[.bool true, .int .u8 ad, .int .u8 en, .bool true, .int .u8 1, .int .i64 mx, .int .i64 per, .int .u8 sp, .int .u8 hu, .int .u8 po, .bool tg, .bool ha, .int .u8 0, .int .u8 0, .int .u8 0, .int .u16 0, .int .u16 0, .int .u16 0, .slice none 0 0, .int .i64 0, .bool false, .int .i64 0, .slice none 0 0, .int .i64 0, .int .i64 0, .bool false, .int .u8 0, .int .i64 0, .bool false, .slice none 0 0, .bool false, .int .i64 0, .slice none 0 0, .slice none 0 0, .int .i64 0, .int .i64 0, .bool false, .int .i64 0, .bool true, .int .u8 en, .int .i64 mx, .slice PA pn pc, .int .i64 m0, .int .i64 (many : Int), .slice XA xn xc, .slice IA im ic, .int .i64 out] 54 (0, 0)) := by rw [← hw0]; exact alloc3_0 _ _ _ _
 have hX1 : w0.heap[w.heap.size + 1]? = some (.cells #[.int .u8 4, .slice A n c] 86 (0, 0)) := by rw [← hw0]; exact alloc3_1 _ _ _ _
 have hX2 : w0.heap[w.heap.size + 1 + 1]? = some (.cells #[.bool false, .int .u8 0, .int .u8 0, .bool false, .int .u8 0, .int .i64 0, .int .i64 0, .int .u8 0, .int .u8 0, .int .u8 0, .bool false, .bool false, .int .u8 0, .int .u8 0, .int .u8 0, .int .u16 0, .int .u16 0, .int .u16 0, .slice none 0 0, .int .i64 0, .bool false, .int .i64 0, .slice none 0 0, .int .i64 0, .int .i64 0, .bool false, .int .u8 0, .int .i64 0, .bool false, .slice none 0 0, .bool false, .int .i64 0, .slice none 0 0, .slice none 0 0, .int .i64 0, .int .i64 0, .bool false, .int .i64 0, .bool false, .int .u8 0, .int .i64 0, .slice none 0 0, .int .i64 0, .int .i64 0, .slice none 0 0, .slice none 0 0, .int .i64 0] 54 (0, 0)) := by rw [← hw0]; exact alloc3_2 _ _ _ _
 rw [hw0]
 clear hw0 hb3
 have hnext := pipe_next ad en true mx per sp hu po tg ha (.int .u8 0) (.int .u8 0) (.int .u8 0) (.int .u16 0) (.int .u16 0) (.int .u16 0) (.slice none 0 0) (.int .i64 0) (.bool false) (.int .i64 0) (.slice none 0 0) (.int .i64 0) (.int .i64 0) (.bool false) (.int .u8 0) (.int .i64 0) (.bool false) (.slice none 0 0) (.bool false) (.int .i64 0) (.slice none 0 0) (.slice none 0 0) (.int .i64 0) (.int .i64 0) (.bool false) (.int .i64 0) (.bool true) (.int .u8 en) (.int .i64 mx) (.slice PA pn pc) (.int .i64 m0) (.int .i64 (many : Int)) (.slice XA xn xc) (.slice IA im ic) (.int .i64 out) en 9 false true mx [] w0 (fun w' hbw => by
  refine (pn_in en mx m0 many xn xc pn pc PA XA w' hx).mono ?_
  rintro e w2 ⟨rfl, hbel⟩
  exact ⟨hbel, _, _, _, rfl, ⟨(D8.nil w2 no).1, .inl rfl⟩, .inl rfl⟩)
 go_wp2_with (guard_target =~ wpList _ _ _ (_ :: _) _ _; refine wpList_load_row rfl (.tmp 2) 54 rfl w.heap.size 54 _ _ rfl hX0 Tryz.underlying54 rfl (by kernel_rfl) ?_)
 refine hnext.mono ?_
 clear hnext
 rintro e w1 ⟨hb1, TA, tn, tc, rfl, hN, _⟩
 clear hN
 go_upto_region 4 with fail
 obtain ⟨w2, hw2⟩ : ∃ w2, w1.alloc (.cells #[.int .u8 ad, .int .u8 en, .int .u8 9, .bool false, .bool true, .int .i64 mx, .slice TA tn tc] 80) = w2 := ⟨_, rfl⟩
 have hb2 : Below w1.heap.size w1 w2 := by rw [← hw2]; exact (Below.refl _ _).alloc (Nat.le_refl _) _
 have hTb : w2.heap[w1.heap.size]? = some (.cells #[.int .u8 ad, .int .u8 en, .int .u8 9, .bool false, .bool true, .int .i64 mx, .slice TA tn tc] 80 (0, 0)) := by rw [← hw2]; exact heap_alloc_new w1 _
 rw [hw2]
 clear hw2
 have hsz1 : w.heap.size + 1 + 1 < w1.heap.size := by have := hb1.size; have := (Array.getElem?_eq_some_iff.1 hX2).1; omega
 have hb12 := hb1.trans (hb2.mono hb1.size)
 replace hX0 := heap_below hX0 hb12
 replace hX1 := heap_below hX1 hb12
 replace hX2 := heap_below hX2 hb12
 have hbw := hb0.trans (hb12.mono hb0.size)
 have hsz2 : w1.heap.size < w2.heap.size := (Array.getElem?_eq_some_iff.1 hTb).1
 clear hb0 hb1 hb2 hb12
 have k4 := cell_of hX0 4
 have k38 := cell_of hX0 38
 have k39 := cell_of hX0 39
 have k40 := cell_of hX0 40
 have k41 := cell_of hX0 41
 have k42 := cell_of hX0 42
 have k43 := cell_of hX0 43
 have k44 := cell_of hX0 44
 have hX' : Pcs w2 XA xn xc us := ⟨hX.1, hX.2.1, hX.2.2.imp id fun ⟨a, e, h⟩ => ⟨a, e, fun j v hj => (hbw.cell (World.block_lt_of_cell? _ _ (h j v hj))).trans (h j v hj)⟩⟩
 have hpa := pa_ret true en mx m0 many xn xc pn pc PA XA us 4 A n c xs w2 (.inr rfl) hX' hx hm (hU.below hbw) hn hmx
 clear hX' hX
 go_upto_region 9 with fail
 go_wp2_with (guard_target =~ wpList _ _ _ (_ :: _) _ _; refine wpList_load_row rfl (.tmp 3) 86 rfl (w.heap.size + 1) 86 _ _ rfl hX1 Tryz.underlying86 rfl (by kernel_rfl) ?_)
 refine hpa.mono ?_
 clear hpa
 rintro e w3 ⟨XA', xc', D, rfl, hP3, hb3, ⟨gX, rfl, hgX⟩, hD⟩
 clear k4 k38 k39 k40 k41 k42 k43 k44
 replace hX0 := heap_below hX0 hb3
 replace hX1 := heap_below hX1 hb3
 replace hX2 := heap_below hX2 hb3
 replace hTb := heap_below hTb hb3
 have hs2w : w.heap.size ≤ w2.heap.size := hbw.size
 replace hbw := hbw.trans (hb3.mono hbw.size)
 have hs23 := hb3.size
 clear hb3
 obtain rfl : D = .slice none 0 0 := by
  rcases hD with ⟨h, _⟩ | ⟨_, h⟩
  ·cases h
  ·exact h
 clear hD
 go_wp2_with (guard_target =~ wpList _ _ _ (_ :: _) _ _; first
  | (refine wpList_store_row rfl (.tmp 36) (.tmp 35) 52 rfl w.heap.size 38 54 _ _ #[.bool true, .int .u8 ad, .int .u8 en, .bool true, .int .u8 1, .int .i64 mx, .int .i64 per, .int .u8 sp, .int .u8 hu, .int .u8 po, .bool tg, .bool ha, .int .u8 0, .int .u8 0, .int .u8 0, .int .u16 0, .int .u16 0, .int .u16 0, .slice none 0 0, .int .i64 0, .bool false, .int .i64 0, .slice none 0 0, .int .i64 0, .int .i64 0, .bool false, .int .u8 0, .int .i64 0, .bool false, .slice none 0 0, .bool false, .int .i64 0, .slice none 0 0, .slice none 0 0, .int .i64 0, .int .i64 0, .bool false, .int .i64 0, .bool true, .int .u8 en, .int .i64 mx, .slice PA pn pc, .int .i64 m0, .int .i64 (many : Int), .slice (some ⟨gX, 0, none⟩) (xn + 1) xc', .slice IA im ic, .int .i64 out] rfl rfl hX0 (by kernel_rfl) (by simp) rfl rfl ?_; intro w4 hZ4 hW4; have hX14 := (hW4.other (w.heap.size + 1) (by omega)).trans hX1; have hX24 := (hW4.other (w.heap.size + 1 + 1) (by omega)).trans hX2; have o0 := cell_of hX14 0)
  | refine wpList_load_row rfl (.tmp 2) 54 rfl w.heap.size 54 _ _ rfl hZ4 Tryz.underlying54 rfl (by kernel_rfl) ?_
  | (refine wpList_store_row rfl (.tmp 4) (.tmp 40) 54 rfl (w.heap.size + 1 + 1) 0 54 _ _ #[.bool true, .int .u8 ad, .int .u8 en, .bool true, .int .u8 1, .int .i64 mx, .int .i64 per, .int .u8 sp, .int .u8 hu, .int .u8 po, .bool tg, .bool ha, .int .u8 0, .int .u8 0, .int .u8 0, .int .u16 0, .int .u16 0, .int .u16 0, .slice none 0 0, .int .i64 0, .bool false, .int .i64 0, .slice none 0 0, .int .i64 0, .int .i64 0, .bool false, .int .u8 0, .int .i64 0, .bool false, .slice none 0 0, .bool false, .int .i64 0, .slice none 0 0, .slice none 0 0, .int .i64 0, .int .i64 0, .bool false, .int .i64 0, .bool true, .int .u8 en, .int .i64 mx, .slice PA pn pc, .int .i64 m0, .int .i64 (many : Int), .slice (some ⟨gX, 0, none⟩) (xn + 1) xc', .slice IA im ic, .int .i64 out] rfl rfl hX24 (by kernel_rfl) (by simp) rfl rfl ?_; intro w6 hZ6 hW6))
 refine ret_one _ _ _ _ rfl rfl hZ6 Tryz.underlying54 rfl (by kernel_rfl) rfl ⟨(hbw.trans (hW4.below (Nat.le_refl _))).trans (hW6.below (by omega)), some ⟨gX, 0, none⟩, xc', rfl, ?_, gX, rfl, by omega⟩
 obtain ⟨h1, h2, ⟨h3, _⟩ | ⟨a, e, h3⟩⟩ := hP3
 ·cases h3
 cases e
 have hgs : w.heap.size + 1 + 1 < gX := by omega
 exact ⟨h1, h2, .inr ⟨_, rfl, fun j v hj => (hW6.cell (by rw [add_block']; show gX ≠ _; omega)).trans ((hW4.cell (by rw [add_block']; show gX ≠ _; omega)).trans (h3 j v hj))⟩⟩
end Go.Proofs.YtiajboiobjfcoaaGreatDoor
