/-
  What is proved here: what bulks.Answer returns for a stream IN, result by result.
  Conditions: what the transfer's bytes hold.
  What is proved here: what copies of bytes, and a transfer's toggle, are.
  Conditions: what the bytes' cells hold.
  What is proved here: what bulks.End returns for a stream IN.
  Conditions: what the received bytes' cells hold.
-/
import Derived.Test.YtiajboiobjfcoaaGreatDoorNRecv
import Derived.Test.YtiajboiobjfcoaaGreatDoorIPnx
namespace Go.Proofs.YtiajboiobjfcoaaGreatDoor
open Go.Proofs Go.RowKit
attribute [local go_sem] lt2 lt3 lt4 lt5 run_store_fn
def BanRecv (en : Int) (tg z : Bool) (ln : Nat) (L : Value) (DA : Option Addr) (dn dc n : Nat) (zs : List Int) (w : World) (e' : Ending) (w' : World) : Prop :=
 Below w.heap.size w w' ∧
  ((ln < dn + n ∧ e' = .returned (.agg (trV true en 8 tg z ln L (.slice DA dn dc) (dn : Int) 0 true 13))) ∨
   (dn + n ≤ ln ∧ ∃ A' c', e' = .returned (.agg (trV true en 8 (!tg) z ln L (.slice A' (dn + n) c') ((dn + n : Nat) : Int) 0 (lastB n dn ln) 0)) ∧ U8 w' A' (dn + n) c' zs ∧ Pl A' (dn + n) ∧
    ((n = 0 ∧ A' = DA ∧ c' = dn) ∨ ∃ g', A' = some ⟨g', 0, none⟩ ∧ w.heap.size ≤ g')))
set_option maxHeartbeats 4000000 in
set_option maxRecDepth 1000000 in
theorem ban_again (inn : Bool) (en mx : Int) (tg z : Bool) (len : Int) (LA : Option Addr) (m lc : Nat) (DA : Option Addr) (dn dc : Nat) (act : Int) (er : Nat) (e : Int) (A : Option Addr) (n c : Nat) (w : World) (hm : (mx == 0) = false) :
  Calls Tryz.prog 40 #[.agg (trV inn en mx tg z len (.slice LA m lc) (.slice DA dn dc) act (er : Int) false e), .agg #[.int .u8 6, .slice A n c]] w fun e' w' => Below w.heap.size w w' ∧ e' = .returned (.agg (trV inn en mx tg z len (.slice LA m lc) (.slice DA dn dc) act 0 false e)) := by
 have hb3 : ∀ a b c : Obj, Below w.heap.size w (((w.alloc a).alloc b).alloc c) := fun a b c => (((Below.refl w.heap.size w).alloc (Nat.le_refl _) a).alloc (by simp) b).alloc (by simp; omega) c
 have hi := fun o1 o2 => idleX w.heap.size inn en mx tg (.slice none 0 0) z len (.slice LA m lc) (.slice DA dn dc) act (er : Int) false e 47 _ hm (alloc3_0 w _ o1 o2)
 unfold trV at hi ⊢
 go_enter Tryz.func40, Tryz.ntmps40
 go_wp2_with fail
 refine (hi _ _).mono ?_
 rintro e' w1 ⟨rfl, rfl⟩
 clear hi
 obtain ⟨w0, hw0⟩ : ∃ w0, (((w.alloc (.cells (trV inn en mx tg z len (.slice LA m lc) (.slice DA dn dc) act (er : Int) false e) 47)).alloc (.cells #[.int .u8 6, .slice A n c] 86)).alloc (.cells (trV false 0 0 false false 0 (.slice none 0 0) (.slice none 0 0) 0 0 false 0) 47)) = w0 := ⟨_, rfl⟩
 have hX0 := alloc3_0 w (.cells (trV inn en mx tg z len (.slice LA m lc) (.slice DA dn dc) act (er : Int) false e) 47) (.cells #[.int .u8 6, .slice A n c] 86) (.cells (trV false 0 0 false false 0 (.slice none 0 0) (.slice none 0 0) 0 0 false 0) 47)
 have hX1 := alloc3_1 w (.cells (trV inn en mx tg z len (.slice LA m lc) (.slice DA dn dc) act (er : Int) false e) 47) (.cells #[.int .u8 6, .slice A n c] 86) (.cells (trV false 0 0 false false 0 (.slice none 0 0) (.slice none 0 0) 0 0 false 0) 47)
 have hX2 := alloc3_2 w (.cells (trV inn en mx tg z len (.slice LA m lc) (.slice DA dn dc) act (er : Int) false e) 47) (.cells #[.int .u8 6, .slice A n c] 86) (.cells (trV false 0 0 false false 0 (.slice none 0 0) (.slice none 0 0) 0 0 false 0) 47)
 have hb0 := hb3 (.cells (trV inn en mx tg z len (.slice LA m lc) (.slice DA dn dc) act (er : Int) false e) 47) (.cells #[.int .u8 6, .slice A n c] 86) (.cells (trV false 0 0 false false 0 (.slice none 0 0) (.slice none 0 0) 0 0 false 0) 47)
 rw [hw0] at hX0 hX1 hX2 hb0
 have hsz0 : w0.heap.size = w.heap.size + 1 + 1 + 1 := by rw [← hw0]; simp
 unfold trV at hw0 hX0 hX2
 rw [hw0]
 clear hw0 hb3
 have c4 := cell_of hX0 4
 have c10 := cell_of hX0 10
 have d0 := cell_of hX1 0
 have f10 := frozen_of hX0 10
 have hP := (Put1.refl hX0).set 10 (.int .i64 0)
 have hPh : (w0.setCell ⟨w.heap.size, 10, none⟩ (.int .i64 0)).heap[w.heap.size]? = some (.cells (trV inn en mx tg z len (.slice LA m lc) (.slice DA dn dc) act 0 false e) 47 (0, 0)) := by unfold trV; exact hP.heap
 have hPw := hP.wrote
 clear hP
 have hZ3 := (hPw.other (w.heap.size + 1 + 1) (by omega)).trans hX2
 have hY3 := (hPw.other (w.heap.size + 1) (by omega)).trans hX1
 have hs3 : (w0.setCell ⟨w.heap.size, 10, none⟩ (.int .i64 0)).heap.size = w.heap.size + 1 + 1 + 1 := hPw.size.trans hsz0
 have hb1 := hb0.trans (hPw.below (Nat.le_refl _))
 go_upto_region 9 with fail
 obtain ⟨w1, hw1⟩ : ∃ w1, w0.setCell ⟨w.heap.size, 10, none⟩ (.int .i64 0) = w1 := ⟨_, rfl⟩
 rw [hw1] at hPh hPw hZ3 hY3 hs3 hb1
 rw [hw1]
 clear hw1 hX0 hX1 hX2 c4 c10 d0 f10 hPw
 have hN := heap_alloc_new w1 (.cells #[.nilFunc] 161)
 have hbN := (Below.refl w1.heap.size w1).alloc (Nat.le_refl _) (.cells #[.nilFunc] 161)
 rw [hs3] at hN
 have hPhN := heap_below hPh hbN
 go_upto_region 10 with (guard_target =~ wpList _ _ _ (_ :: _) _ _; (refine wpList_store_row rfl (.tmp 5) (.tmp 31) 161 rfl (w.heap.size + 1 + 1 + 1) 0 161 _ _ #[.func (.func 72) #[] #[]] rfl rfl hN (by kernel_rfl) (Nat.le_refl 1) rfl rfl ?_; intro w2 hD2 hW2))
 have hT2 := (hW2.other w.heap.size (by omega)).trans hPhN
 have hY2 := (hW2.other (w.heap.size + 1) (by omega)).trans (heap_below hY3 hbN)
 have hZ2 := (hW2.other (w.heap.size + 1 + 1) (by omega)).trans (heap_below hZ3 hbN)
 have hb2 := (hb1.trans (hbN.mono (by omega))).trans (hW2.below (by omega))
 clear hW2 hN hbN hPhN hPh hZ3 hY3 hb1 hb0
 unfold trV at hT2
 have i0 := cell_of hT2 0
 have d0 := cell_of hY2 0
 have d1 := cell_of hY2 1
 have dd := cell_of hD2 0
 have fd := frozen_of hD2 0
 cases inn
 ·go_wp2_with (guard_target =~ wpList _ _ _ (_ :: _) _ _; first
   | refine wpList_load_row rfl (.tmp 2) 47 rfl w.heap.size 47 _ _ rfl hT2 Tryz.underlying47 rfl (by kernel_rfl) ?_
   | (refine wpList_store_row rfl (.tmp 4) (.tmp 51) 47 rfl (w.heap.size + 1 + 1) 0 47 _ _ (trV _ en mx tg z len (.slice LA m lc) (.slice DA dn dc) act 0 false e) rfl rfl hZ2 (by kernel_rfl) (Nat.le_refl 13) rfl rfl ?_; intro w8 hR8 hW8))
  exact ret_one _ _ _ _ rfl rfl hR8 Tryz.underlying47 rfl (by kernel_rfl) rfl ⟨hb2.trans (hW8.below (by omega)), rfl⟩
 ·have hQh := setCell_heap hD2 0 (.func (.func 73) #[] #[])
  have hQw := (Wrote.refl (w.heap.size + 1 + 1 + 1) w2).setCell 0 (.func (.func 73) #[] #[])
  go_upto_region 12 with fail
  obtain ⟨w2', hw2⟩ : ∃ w2', w2.setCell ⟨w.heap.size + 1 + 1 + 1, 0, none⟩ (.func (.func 73) #[] #[]) = w2' := ⟨_, rfl⟩
  rw [hw2] at hQh hQw
  rw [hw2]
  have hT2 := (hQw.other w.heap.size (by omega)).trans hT2
  have hY2 := (hQw.other (w.heap.size + 1) (by omega)).trans hY2
  have hZ2 := (hQw.other (w.heap.size + 1 + 1) (by omega)).trans hZ2
  have hb2 := hb2.trans (hQw.below (by omega))
  clear hw2 d0 d1 dd fd i0 hD2
  have d0 := cell_of hY2 0
  have d1 := cell_of hY2 1
  have dd := cell_of hQh 0
  clear hQh
  go_wp2_with (guard_target =~ wpList _ _ _ (_ :: _) _ _; first
   | refine wpList_load_row rfl (.tmp 2) 47 rfl w.heap.size 47 _ _ rfl hT2 Tryz.underlying47 rfl (by kernel_rfl) ?_
   | (refine wpList_store_row rfl (.tmp 4) (.tmp 51) 47 rfl (w.heap.size + 1 + 1) 0 47 _ _ (trV _ en mx tg z len (.slice LA m lc) (.slice DA dn dc) act 0 false e) rfl rfl hZ2 (by kernel_rfl) (Nat.le_refl 13) rfl rfl ?_; intro w8 hR8 hW8))
  exact ret_one _ _ _ _ rfl rfl hR8 Tryz.underlying47 rfl (by kernel_rfl) rfl ⟨hb2.trans (hW8.below (by omega)), rfl⟩
set_option maxHeartbeats 4000000 in
set_option maxRecDepth 1000000 in
theorem ban_recv (en : Int) (tg z : Bool) (ln : Nat) (LA : Option Addr) (m lc : Nat) (DA : Option Addr) (dn dc : Nat) (xs : List Int) (er : Nat) (A : Option Addr) (n c : Nat) (ys : List Int) (w : World) (hD : U8 w DA dn dc xs) (hPl : Pl DA dn) (hu : U8 w A n c ys) (hn : n ≤ 8) (hdn : dn ≤ 1000) (hln : ln ≤ 1000) (hlt0 : dn = 0 ∨ ∃ a, DA = some a ∧ a.block < w.heap.size) :
  Calls Tryz.prog 40 #[.agg (trV true en 8 tg z (ln : Int) (.slice LA m lc) (.slice DA dn dc) (dn : Int) (er : Int) false 0), .agg #[.int .u8 1, .slice A n c]] w (BanRecv en tg z ln (.slice LA m lc) DA dn dc n (xs ++ ys) w) := by
 have hb3 : ∀ a b c : Obj, Below w.heap.size w (((w.alloc a).alloc b).alloc c) := fun a b c => (((Below.refl w.heap.size w).alloc (Nat.le_refl _) a).alloc (by simp) b).alloc (by simp; omega) c
 have hi := fun o1 o2 => idleX w.heap.size true en 8 tg (.slice none 0 0) z (ln : Int) (.slice LA m lc) (.slice DA dn dc) (dn : Int) (er : Int) false 0 47 _ rfl (alloc3_0 w _ o1 o2)
 unfold trV at hi ⊢
 go_enter Tryz.func40, Tryz.ntmps40
 go_wp2_with fail
 refine (hi _ _).mono ?_
 rintro e' w1 ⟨rfl, rfl⟩
 clear hi
 obtain ⟨w0, hw0⟩ : ∃ w0, (((w.alloc (.cells (trV true en 8 tg z (ln : Int) (.slice LA m lc) (.slice DA dn dc) (dn : Int) (er : Int) false 0) 47)).alloc (.cells #[.int .u8 1, .slice A n c] 86)).alloc (.cells (trV false 0 0 false false 0 (.slice none 0 0) (.slice none 0 0) 0 0 false 0) 47)) = w0 := ⟨_, rfl⟩
 have hX0 := alloc3_0 w (.cells (trV true en 8 tg z (ln : Int) (.slice LA m lc) (.slice DA dn dc) (dn : Int) (er : Int) false 0) 47) (.cells #[.int .u8 1, .slice A n c] 86) (.cells (trV false 0 0 false false 0 (.slice none 0 0) (.slice none 0 0) 0 0 false 0) 47)
 have hX1 := alloc3_1 w (.cells (trV true en 8 tg z (ln : Int) (.slice LA m lc) (.slice DA dn dc) (dn : Int) (er : Int) false 0) 47) (.cells #[.int .u8 1, .slice A n c] 86) (.cells (trV false 0 0 false false 0 (.slice none 0 0) (.slice none 0 0) 0 0 false 0) 47)
 have hX2 := alloc3_2 w (.cells (trV true en 8 tg z (ln : Int) (.slice LA m lc) (.slice DA dn dc) (dn : Int) (er : Int) false 0) 47) (.cells #[.int .u8 1, .slice A n c] 86) (.cells (trV false 0 0 false false 0 (.slice none 0 0) (.slice none 0 0) 0 0 false 0) 47)
 have hb0 := hb3 (.cells (trV true en 8 tg z (ln : Int) (.slice LA m lc) (.slice DA dn dc) (dn : Int) (er : Int) false 0) 47) (.cells #[.int .u8 1, .slice A n c] 86) (.cells (trV false 0 0 false false 0 (.slice none 0 0) (.slice none 0 0) 0 0 false 0) 47)
 rw [hw0] at hX0 hX1 hX2 hb0
 have hsz0 : w0.heap.size = w.heap.size + 1 + 1 + 1 := by rw [← hw0]; simp
 unfold trV at hw0 hX0 hX2
 rw [hw0]
 clear hw0 hb3
 have c4 := cell_of hX0 4
 have c10 := cell_of hX0 10
 have d0 := cell_of hX1 0
 have f10 := frozen_of hX0 10
 have hP := (Put1.refl hX0).set 10 (.int .i64 0)
 have hPh : (w0.setCell ⟨w.heap.size, 10, none⟩ (.int .i64 0)).heap[w.heap.size]? = some (.cells (trV true en 8 tg z (ln : Int) (.slice LA m lc) (.slice DA dn dc) (dn : Int) 0 false 0) 47 (0, 0)) := by unfold trV; exact hP.heap
 have hPw := hP.wrote
 clear hP
 have hZ3 := (hPw.other (w.heap.size + 1 + 1) (by omega)).trans hX2
 have hY3 := (hPw.other (w.heap.size + 1) (by omega)).trans hX1
 have hs3 : (w0.setCell ⟨w.heap.size, 10, none⟩ (.int .i64 0)).heap.size = w.heap.size + 1 + 1 + 1 := hPw.size.trans hsz0
 have hb1 := hb0.trans (hPw.below (Nat.le_refl _))
 go_upto_region 9 with fail
 obtain ⟨w1, hw1⟩ : ∃ w1, w0.setCell ⟨w.heap.size, 10, none⟩ (.int .i64 0) = w1 := ⟨_, rfl⟩
 rw [hw1] at hPh hPw hZ3 hY3 hs3 hb1
 rw [hw1]
 clear hw1 hX0 hX1 hX2 c4 c10 d0 f10 hPw
 have hN := heap_alloc_new w1 (.cells #[.nilFunc] 161)
 have hbN := (Below.refl w1.heap.size w1).alloc (Nat.le_refl _) (.cells #[.nilFunc] 161)
 rw [hs3] at hN
 have hPhN := heap_below hPh hbN
 go_upto_region 10 with (guard_target =~ wpList _ _ _ (_ :: _) _ _; (refine wpList_store_row rfl (.tmp 5) (.tmp 31) 161 rfl (w.heap.size + 1 + 1 + 1) 0 161 _ _ #[.func (.func 72) #[] #[]] rfl rfl hN (by kernel_rfl) (Nat.le_refl 1) rfl rfl ?_; intro w2 hD2 hW2))
 have hT2 := (hW2.other w.heap.size (by omega)).trans hPhN
 have hY2 := (hW2.other (w.heap.size + 1) (by omega)).trans (heap_below hY3 hbN)
 have hZ2 := (hW2.other (w.heap.size + 1 + 1) (by omega)).trans (heap_below hZ3 hbN)
 have hb2 := (hb1.trans (hbN.mono (by omega))).trans (hW2.below (by omega))
 clear hW2 hN hbN hPhN hPh hZ3 hY3 hb1 hb0
 unfold trV at hT2
 have i0 := cell_of hT2 0
 have d0 := cell_of hY2 0
 have d1 := cell_of hY2 1
 have dd := cell_of hD2 0
 have fd := frozen_of hD2 0
 have hQh := setCell_heap hD2 0 (.func (.func 73) #[] #[])
 have hQw := (Wrote.refl (w.heap.size + 1 + 1 + 1) w2).setCell 0 (.func (.func 73) #[] #[])
 go_upto_region 12 with fail
 obtain ⟨w2', hw2⟩ : ∃ w2', w2.setCell ⟨w.heap.size + 1 + 1 + 1, 0, none⟩ (.func (.func 73) #[] #[]) = w2' := ⟨_, rfl⟩
 rw [hw2] at hQh hQw
 rw [hw2]
 have hT2 := (hQw.other w.heap.size (by omega)).trans hT2
 have hY2 := (hQw.other (w.heap.size + 1) (by omega)).trans hY2
 have hZ2 := (hQw.other (w.heap.size + 1 + 1) (by omega)).trans hZ2
 have hb2 := hb2.trans (hQw.below (by omega))
 clear hw2 d0 d1 dd fd i0 hD2
 have d0 := cell_of hY2 0
 have d1 := cell_of hY2 1
 have dd := cell_of hQh 0
 have hQ3 := hQh
 clear hQh
 go_wp2_with fail
 refine (recv_ret w.heap.size en tg z ln (.slice LA m lc) DA dn dc xs 0 A n c ys _ (by unfold trV; exact hT2) (hD.below hb2) hPl (hu.below hb2) (hlt0.imp id fun ⟨a, e, h⟩ => ⟨a, e, by omega⟩) hn hdn hln).mono ?_
 rintro e' w3 ⟨⟨v, rfl⟩, hx3, hr3⟩
 have hs2 : w.heap.size + 1 + 1 + 1 < w2'.heap.size := (Array.getElem?_eq_some_iff.1 hQ3).1
 have hZ4 : w3.heap[w.heap.size + 1 + 1]? = _ := (hx3.block (w.heap.size + 1 + 1) (by omega) (fun h => h) (by omega)).trans hZ2
 have hb3' : Below w.heap.size w w3 := ⟨hx3.os.trans hb2.os, hx3.tape.trans hb2.tape, hx3.output.trans hb2.output, Nat.le_trans hb2.size hx3.size, fun i hi => (hx3.block i (Nat.lt_of_lt_of_le hi hb2.size) (fun h => h) (by omega)).trans (hb2.block i hi)⟩
 have hsz : w.heap.size ≤ w2'.heap.size := hb2.size
 clear hT2 hY2 hx3 d0 d1 dd
 rcases hr3 with ⟨hlt, hh3⟩ | ⟨hle, A', c', hh3, hU3, hP3, hA3⟩
 ·go_wp2_with (guard_target =~ wpList _ _ _ (_ :: _) _ _; first
   | refine wpList_load_row rfl (.tmp 2) 47 rfl w.heap.size 47 _ _ rfl hh3 Tryz.underlying47 rfl (by kernel_rfl) ?_
   | (refine wpList_store_row rfl (.tmp 4) (.tmp 51) 47 rfl (w.heap.size + 1 + 1) 0 47 _ _ (trV true en 8 tg z (ln : Int) (.slice LA m lc) (.slice DA dn dc) (dn : Int) 0 true 13) rfl rfl hZ4 (by kernel_rfl) (Nat.le_refl 13) rfl rfl ?_; intro w8 hR8 hW8))
  exact ret_one _ _ _ _ rfl rfl hR8 Tryz.underlying47 rfl (by kernel_rfl) rfl ⟨hb3'.trans (hW8.below (by omega)), .inl ⟨hlt, rfl⟩⟩
 ·have hu8 : ∀ w8, Wrote (w.heap.size + 1 + 1) w3 w8 → U8 w8 A' (dn + n) c' (xs ++ ys) := fun w8 hW8 => hU3.wrote hW8 (by
   rcases hA3 with ⟨h0, e1, _⟩ | ⟨g', e1, hg'⟩
   ·subst h0 e1
    exact hlt0.imp (by omega) fun ⟨a, e, h⟩ => ⟨a, e, by omega⟩
   ·exact .inr ⟨_, e1, by show g' ≠ _; omega⟩)
  have HU8 := Lib.hid hu8
  have HP3 := Lib.hid hP3
  have hA3' : (n = 0 ∧ A' = DA ∧ c' = dn) ∨ ∃ g', A' = some ⟨g', 0, none⟩ ∧ w.heap.size ≤ g' := hA3.imp id fun ⟨g', e, h⟩ => ⟨g', e, by omega⟩
  have HA3 := Lib.hid hA3'
  clear hu8 hU3 hP3 hA3 hA3'
  generalize hlb : lastB n dn ln = lb at hh3
  have HLB := Lib.hid hlb
  clear hlb
  go_wp2_with (guard_target =~ wpList _ _ _ (_ :: _) _ _; first
   | refine wpList_load_row rfl (.tmp 2) 47 rfl w.heap.size 47 _ _ rfl hh3 Tryz.underlying47 rfl (by kernel_rfl) ?_
   | (refine wpList_store_row rfl (.tmp 4) (.tmp 51) 47 rfl (w.heap.size + 1 + 1) 0 47 _ _ (trV true en 8 (!tg) z (ln : Int) (.slice LA m lc) (.slice A' (dn + n) c') ((dn + n : Nat) : Int) 0 lb 0) rfl rfl hZ4 (by kernel_rfl) (Nat.le_refl 13) rfl rfl ?_; intro w8 hR8 hW8))
  exact ret_one _ _ _ _ rfl rfl hR8 Tryz.underlying47 rfl (by kernel_rfl) rfl ⟨hb3'.trans (hW8.below (by omega)), .inr ⟨hle, A', c', by rw [HLB.out], HU8.out _ hW8, HP3.out, HA3.out⟩⟩
end Go.Proofs.YtiajboiobjfcoaaGreatDoor

namespace Go.Proofs.YtiajboiobjfcoaaGreatDoor
open Go.Proofs Go.RowKit
attribute [local go_sem] lt2 lt3 lt4 lt5
attribute [-go_sem] Builtin.append_
set_option maxHeartbeats 1000000 in
theorem clip_ret (A : Option Addr) (n c : Nat) (w : World) (hnc : n ≤ c) :
  Calls Tryz.prog 27 #[.slice A n c] w fun e w' => e = .returned (.slice A n n) ∧ w' = w := by
 have q1 : (n : Int) ≤ (c : Int) := by omega
 cases A
 all_goals
  go_enter Tryz.func27, Tryz.ntmps27
  go_wp2
  go_ret
  exact ⟨rfl, rfl⟩
set_option maxHeartbeats 1000000 in
theorem toggle_ret (inn : Bool) (en mx : Int) (tg z : Bool) (len : Int) (LA : Option Addr) (m lc : Nat) (DA : Option Addr) (dn dc : Nat) (act er : Int) (ov : Bool) (e : Int) (w : World) :
  Calls Tryz.prog 29 #[.agg (trV inn en mx tg z len (.slice LA m lc) (.slice DA dn dc) act er ov e)] w fun e w' => e = .returned (.bool tg) ∧ Below w.heap.size w w' := by
 have hb : ∀ o, Below w.heap.size w (w.alloc o) := fun o => (Below.refl w.heap.size w).alloc (Nat.le_refl _) o
 unfold trV
 go_enter Tryz.func29, Tryz.ntmps29
 go_wp2
 go_ret
 exact ⟨rfl, hb _⟩
def Copy8 (w : World) (n : Nat) (xs : List Int) (e : Ending) (w' : World) : Prop :=
 Below w.heap.size w w' ∧ ∃ A' c', e = .returned (.slice A' n c') ∧ U8 w' A' n c' xs ∧ (n = 0 ∨ ∃ g, A' = some ⟨g, 0, none⟩ ∧ w.heap.size ≤ g)
set_option maxHeartbeats 2000000 in
set_option maxRecDepth 100000 in
theorem sclone_ret (A : Option Addr) (n c : Nat) (xs : List Int) (w : World) (hu : U8 w A n c xs) (hn : n ≤ 1000) :
  Calls Tryz.prog 28 #[.slice A n c] w (Copy8 w n xs) := by
 rcases id hu.2.2.2 with ⟨rfl, rfl, rfl⟩ | ⟨a, rfl, _⟩
 ·have hx : xs = [] := List.length_eq_zero_iff.1 hu.1
  subst hx
  have hnil := fun (w : World) => Lib.run_eql_slice_nil (P := Tryz.prog) w 23 5 none 0 0 0 0 Tryz.underlying23
  go_enter Tryz.func28, Tryz.ntmps28
  go_wp2_with fail
  go_ret
  exact ⟨Below.refl _ _, none, 0, rfl, hu, .inl rfl⟩
 ·have hb : Below w.heap.size w (w.alloc (.cells #[] 5)) := (Below.refl w.heap.size w).alloc (Nat.le_refl _) _
  obtain ⟨v, w2, hrun, A', c', rfl, hU, hB, hA⟩ := grown8 (w := w.alloc (.cells #[] 5)) (A := some ⟨w.heap.size, 0, none⟩) (n := 0) (xs := []) ⟨rfl, fun x hx => (by cases hx), Nat.le_refl _, .inr ⟨_, rfl, fun j hj => (by omega)⟩⟩ (hu.below hb) (by omega)
  rw [Nat.zero_add] at hrun hU
  have hfin : Copy8 w n xs (.returned (.slice A' n c')) w2 := by
   refine ⟨hb.trans (hB.mono hb.size), A', c', rfl, by simpa using hU, ?_⟩
   rcases hA with ⟨h0, _, _⟩ | ⟨g, e, hg⟩
   ·exact .inl h0
   ·exact .inr ⟨g, e, by have := hb.size; omega⟩
  clear hU hB hA
  have hnil := fun (w : World) => Lib.run_eql_slice_nil (P := Tryz.prog) w 23 5 (some a) n c 0 0 Tryz.underlying23
  go_enter Tryz.func28, Tryz.ntmps28
  go_wp2_with fail
  go_ret
  exact hfin
end Go.Proofs.YtiajboiobjfcoaaGreatDoor

namespace Go.Proofs.YtiajboiobjfcoaaGreatDoor
open Go.Proofs Go.RowKit
attribute [local go_sem] lt2 lt3 lt4 lt5
theorem put3 {w : World} {g : Nat} {t : TypeId} {z0 z1 z2 : Value} (h : w.heap[g]? = some (.cells #[z0, z1, z2] t (0, 0))) (v0 v1 v2 : Value) :
  (((w.setCell ⟨g, 0, none⟩ v0).setCell ⟨g, 1, none⟩ v1).setCell ⟨g, 2, none⟩ v2).heap[g]? = some (.cells #[v0, v1, v2] t (0, 0)) ∧ Wrote g w (((w.setCell ⟨g, 0, none⟩ v0).setCell ⟨g, 1, none⟩ v1).setCell ⟨g, 2, none⟩ v2) := by
 have hP := (((Put1.refl h).set 0 v0).set 1 v1).set 2 v2
 exact ⟨by simpa using hP.heap, hP.wrote⟩
def BendEnd (e act : Int) (xs : List Int) (w : World) (e0 : Ending) (w' : World) : Prop :=
 Below w.heap.size w w' ∧ ∃ g c, e0 = .returned (.tuple #[.agg #[.int .i64 e, .slice (some ⟨g, 0, none⟩) xs.length c, .int .i64 act], .bool true]) ∧ F8 w' g xs.length c xs ∧ w.heap.size ≤ g
set_option maxHeartbeats 4000000 in
set_option maxRecDepth 1000000 in
theorem bend_not (inn : Bool) (en mx : Int) (tg z : Bool) (len : Int) (LA : Option Addr) (m lc : Nat) (DA : Option Addr) (dn dc : Nat) (act er e : Int) (w : World) :
  Calls Tryz.prog 34 #[.agg (trV inn en mx tg z len (.slice LA m lc) (.slice DA dn dc) act er false e)] w fun e0 w' => Below w.heap.size w w' ∧ e0 = .returned (.tuple #[.agg #[.int .i64 0, .slice none 0 0, .int .i64 0], .bool false]) := by
 have hb2 : ∀ a b, Below w.heap.size w ((w.alloc a).alloc b) := fun a b => ((Below.refl w.heap.size w).alloc (Nat.le_refl _) a).alloc (by simp) b
 unfold trV
 go_enter Tryz.func34, Tryz.ntmps34
 go_wp2_with fail
 exact ret_cell _ _ _ _ _ rfl rfl rfl (alloc2_1 w _ _) Tryz.underlying113 rfl (by kernel_rfl) rfl ⟨hb2 _ _, rfl⟩
set_option maxHeartbeats 4000000 in
set_option maxRecDepth 1000000 in
theorem bend_over (inn : Bool) (en mx : Int) (tg z : Bool) (len : Int) (LA : Option Addr) (m lc : Nat) (DA : Option Addr) (dn dc : Nat) (act er e : Int) (xs : List Int) (w : World) (hD : U8 w DA dn dc xs) (hn : dn ≤ 1000) :
  Calls Tryz.prog 34 #[.agg (trV inn en mx tg z len (.slice LA m lc) (.slice DA dn dc) act er true e)] w (BendEnd e act xs w) := by
 have hb2 : ∀ a b, Below w.heap.size w ((w.alloc a).alloc b) := fun a b => ((Below.refl w.heap.size w).alloc (Nat.le_refl _) a).alloc (by simp) b
 obtain rfl : xs.length = dn := hD.1
 unfold trV
 go_enter Tryz.func34, Tryz.ntmps34
 go_upto_region 3 with fail
 obtain ⟨w1, hw1⟩ : ∃ w1, (w.alloc (.cells #[.bool inn, .int .u8 en, .int .i64 mx, .bool tg, .slice none 0 0, .bool z, .int .i64 len, .slice LA m lc, .slice DA xs.length dc, .int .i64 act, .int .i64 er, .bool true, .int .i64 e] 47)).alloc (.cells #[.int .i64 0, .slice none 0 0, .int .i64 0] 113) = w1 := ⟨_, rfl⟩
 have hb1 : Below w.heap.size w w1 := by rw [← hw1]; exact hb2 _ _
 have hT1 : w1.heap[w.heap.size]? = some (.cells #[.bool inn, .int .u8 en, .int .i64 mx, .bool tg, .slice none 0 0, .bool z, .int .i64 len, .slice LA m lc, .slice DA xs.length dc, .int .i64 act, .int .i64 er, .bool true, .int .i64 e] 47 (0, 0)) := by rw [← hw1]; exact alloc2_0 _ _ _
 have hR1 : w1.heap[w.heap.size + 1]? = some (.cells #[.int .i64 0, .slice none 0 0, .int .i64 0] 113 (0, 0)) := by rw [← hw1]; exact alloc2_1 _ _ _
 rw [hw1]
 clear hw1 hb2
 have t8 := cell_of hT1 8
 have t9 := cell_of hT1 9
 have t12 := cell_of hT1 12
 have hu := hD.below hb1
 clear hD
 go_region_with (go_at_call 63; refine (clone_x DA xs.length dc xs _ (hu.drew) (by omega)).mono ?_; rintro e0 w2 ⟨g1, c1, rfl, hu1, hg1, hb3⟩; replace hb3 : Below w1.heap.size w1 w2 := below_undrew hb3; have hT2 := heap_below hT1 hb3; have hR2 := heap_below hR1 hb3; have s9 := cell_of hT2 9; have s12 := cell_of hT2 12; have z0 := cell_of hR2 0; have f0 := frozen_of hR2 0; have z1 := cell_of hR2 1; have f1 := frozen_of hR2 1; have z2 := cell_of hR2 2; have f2 := frozen_of hR2 2)
 all_goals
  have hP := put3 hR2 (.int .i64 e) (.slice (some ⟨g1, 0, none⟩) xs.length c1) (.int .i64 act)
  generalize (((w2.setCell ⟨w.heap.size + 1, 0, none⟩ (.int .i64 e)).setCell ⟨w.heap.size + 1, 1, none⟩ (.slice (some ⟨g1, 0, none⟩) xs.length c1)).setCell ⟨w.heap.size + 1, 2, none⟩ (.int .i64 act)) = w5 at hP ⊢
  have hZ5 := heap_drew1 hP.1
  have hW5 := hP.2
  clear hP
  go_wp2_with fail
  refine ret_cell _ _ _ _ _ rfl rfl rfl hZ5 Tryz.underlying113 rfl (by kernel_rfl) rfl ?_
  have hg1' : w1.heap.size ≤ g1 := hg1
  have hsz := (Array.getElem?_eq_some_iff.1 hR1).1
  exact ⟨(hb1.trans (hb3.mono hb1.size)).trans ⟨hW5.os, hW5.tape, hW5.output, Nat.le_of_eq hW5.size.symm, fun i hi => hW5.other i (by omega)⟩, g1, c1, rfl, hu1.heap (fun o ho => (hW5.other g1 (by omega)).trans ho), by have := hb1.size; omega⟩
end Go.Proofs.YtiajboiobjfcoaaGreatDoor
