/-
  What is proved here: what bulks.Answer returns for a stream OUT, exactly.
  Conditions: what the transfer's list holds.
-/
import Derived.Test.YtiajboiobjfcoaaGreatDoorOBn
namespace Go.Proofs.YtiajboiobjfcoaaGreatDoor
open Go.Proofs Go.RowKit
attribute [local go_sem] lt2 lt3 lt4 lt5
theorem run_store_fn {P : Program} {w : World} {a : Addr} {m : Mode} (fn : Fn) (first captured : Array Value) : (store a (.func fn first captured) m).run P w = stored P w a (.func fn first captured) m := run_store P w a _ m rfl
attribute [local go_sem] run_store_fn
set_option maxHeartbeats 4000000 in
set_option maxRecDepth 1000000 in
theorem end_ret (g : Nat) (inn : Bool) (en mx : Int) (tg z : Bool) (len : Int) (L D : Value) (act er : Int) (ov : Bool) (e x : Int) (w : World)
  (hg : w.heap[g]? = some (.cells (trV inn en mx tg z len L D act er ov e) 47 (0, 0))) :
  Calls Tryz.prog 71 #[.pointer (some ⟨g, 0, none⟩), .int .i64 x] w fun e' w' => (∃ v, e' = .returned v) ∧ Wrote g w w' ∧ w'.heap[g]? = some (.cells (trV inn en mx tg z len L D act er true x) 47 (0, 0)) := by
 have hlt : g < w.heap.size := (Array.getElem?_eq_some_iff.1 hg).1
 unfold trV at hg ⊢
 have c11 := cell_of hg 11
 have c12 := cell_of hg 12
 have f11 := frozen_of hg 11
 have f12 := frozen_of hg 12
 have hP := ((Put1.refl hg).set 11 (.bool true)).set 12 (.int .i64 x)
 have hPh := hP.heap
 have hPw := hP.wrote
 clear hP
 go_enter Tryz.func71, Tryz.ntmps71
 go_wp2_with fail
 go_end0
 exact ⟨⟨_, rfl⟩, hPw, hPh⟩
set_option maxHeartbeats 4000000 in
set_option maxRecDepth 1000000 in
theorem ban_none (inn : Bool) (en mx : Int) (tg z : Bool) (len : Int) (LA : Option Addr) (m lc : Nat) (DA : Option Addr) (dn dc : Nat) (act : Int) (er : Nat) (e : Int) (A : Option Addr) (n c : Nat) (w : World) (hm : (mx == 0) = false) (her : er < 3) :
  Calls Tryz.prog 40 #[.agg (trV inn en mx tg z len (.slice LA m lc) (.slice DA dn dc) act (er : Int) false e), .agg #[.int .u8 4, .slice A n c]] w fun e' w' => Below w.heap.size w w' ∧ e' = .returned (.agg (trV inn en mx tg z len (.slice LA m lc) (.slice DA dn dc) act ((er + 1 : Nat) : Int) (er + 1 == 3) (if er + 1 = 3 then 11 else e))) := by
 have hb3 : ∀ a b c : Obj, Below w.heap.size w (((w.alloc a).alloc b).alloc c) := fun a b c => (((Below.refl w.heap.size w).alloc (Nat.le_refl _) a).alloc (by simp) b).alloc (by simp; omega) c
 have hi := fun o1 o2 => idleX w.heap.size inn en mx tg (.slice none 0 0) z len (.slice LA m lc) (.slice DA dn dc) act (er : Int) false e 47 _ hm (alloc3_0 w _ o1 o2)
 have hw1 : IntKind.i64.wrap ((er : Int) + 1) = (er : Int) + 1 := IntWalk.i64_in _ (by omega)
 unfold trV at hi ⊢
 go_enter Tryz.func40, Tryz.ntmps40
 go_wp2_with fail
 refine (hi _ _).mono ?_
 rintro e' w1 ⟨rfl, rfl⟩
 clear hi
 obtain ⟨w0, hw0⟩ : ∃ w0, (((w.alloc (.cells (trV inn en mx tg z len (.slice LA m lc) (.slice DA dn dc) act (er : Int) false e) 47)).alloc (.cells #[.int .u8 4, .slice A n c] 86)).alloc (.cells (trV false 0 0 false false 0 (.slice none 0 0) (.slice none 0 0) 0 0 false 0) 47)) = w0 := ⟨_, rfl⟩
 have hX0 := alloc3_0 w (.cells (trV inn en mx tg z len (.slice LA m lc) (.slice DA dn dc) act (er : Int) false e) 47) (.cells #[.int .u8 4, .slice A n c] 86) (.cells (trV false 0 0 false false 0 (.slice none 0 0) (.slice none 0 0) 0 0 false 0) 47)
 have hX1 := alloc3_1 w (.cells (trV inn en mx tg z len (.slice LA m lc) (.slice DA dn dc) act (er : Int) false e) 47) (.cells #[.int .u8 4, .slice A n c] 86) (.cells (trV false 0 0 false false 0 (.slice none 0 0) (.slice none 0 0) 0 0 false 0) 47)
 have hX2 := alloc3_2 w (.cells (trV inn en mx tg z len (.slice LA m lc) (.slice DA dn dc) act (er : Int) false e) 47) (.cells #[.int .u8 4, .slice A n c] 86) (.cells (trV false 0 0 false false 0 (.slice none 0 0) (.slice none 0 0) 0 0 false 0) 47)
 have hb0 := hb3 (.cells (trV inn en mx tg z len (.slice LA m lc) (.slice DA dn dc) act (er : Int) false e) 47) (.cells #[.int .u8 4, .slice A n c] 86) (.cells (trV false 0 0 false false 0 (.slice none 0 0) (.slice none 0 0) 0 0 false 0) 47)
 rw [hw0] at hX0 hX1 hX2 hb0
 have hsz0 : w0.heap.size = w.heap.size + 1 + 1 + 1 := by rw [← hw0]; simp
 unfold trV at hw0 hX0 hX2
 rw [hw0]
 clear hw0 hb3
 have c4 := cell_of hX0 4
 have c10 := cell_of hX0 10
 have d0 := cell_of hX1 0
 have f10 := frozen_of hX0 10
 have hP := (Put1.refl hX0).set 10 (.int .i64 ((er : Int) + 1))
 have hPh : (w0.setCell ⟨w.heap.size, 10, none⟩ (.int .i64 ((er : Int) + 1))).heap[w.heap.size]? = some (.cells (trV inn en mx tg z len (.slice LA m lc) (.slice DA dn dc) act ((er : Int) + 1) false e) 47 (0, 0)) := by unfold trV; exact hP.heap
 have hPw := hP.wrote
 clear hP
 have hZ3 := (hPw.other (w.heap.size + 1 + 1) (by omega)).trans hX2
 by_cases h2 : er = 2
 ·subst h2
  have hw1 : IntKind.i64.wrap (2 + 1) = 3 := by decide
  go_wp2_with fail
  refine (end_ret _ _ _ _ _ _ _ _ _ _ _ _ _ _ _ hPh).mono ?_
  rintro e' w3 ⟨⟨v, rfl⟩, hW3, hh3⟩
  have hZ4 := (hW3.other (w.heap.size + 1 + 1) (by omega)).trans hZ3
  go_wp2_with (guard_target =~ wpList _ _ _ (_ :: _) _ _; first
   | refine wpList_load_row rfl (.tmp 2) 47 rfl w.heap.size 47 _ _ rfl hh3 Tryz.underlying47 rfl (by kernel_rfl) ?_
   | (refine wpList_store_row rfl (.tmp 4) (.tmp 29) 47 rfl (w.heap.size + 1 + 1) 0 47 _ _ (trV inn en mx tg z len (.slice LA m lc) (.slice DA dn dc) act ((2 : Nat) + 1 : Int) true 11) rfl rfl hZ4 (by kernel_rfl) (Nat.le_refl 13) rfl rfl ?_; intro w8 hR8 hW8))
  exact ret_one _ _ _ _ rfl rfl hR8 Tryz.underlying47 rfl (by kernel_rfl) rfl ⟨((hb0.trans (hPw.below (Nat.le_refl _))).trans (hW3.below (Nat.le_refl _))).trans (hW8.below (by omega)), rfl⟩
 ·have h3 : ((er : Int) + 1 == 3) = false := by simp; omega
  have h4 : (er + 1 == 3) = false := by simp; omega
  have h5 : ¬ er + 1 = 3 := by omega
  go_wp2_with (guard_target =~ wpList _ _ _ (_ :: _) _ _; first
   | refine wpList_load_row rfl (.tmp 2) 47 rfl w.heap.size 47 _ _ rfl hPh Tryz.underlying47 rfl (by kernel_rfl) ?_
   | (refine wpList_store_row rfl (.tmp 4) (.tmp 29) 47 rfl (w.heap.size + 1 + 1) 0 47 _ _ (trV inn en mx tg z len (.slice LA m lc) (.slice DA dn dc) act ((er : Int) + 1) false e) rfl rfl hZ3 (by kernel_rfl) (Nat.le_refl 13) rfl rfl ?_; intro w8 hR8 hW8))
  exact ret_one _ _ _ _ rfl rfl hR8 Tryz.underlying47 rfl (by kernel_rfl) rfl ⟨(hb0.trans (hPw.below (Nat.le_refl _))).trans (hW8.below (by omega)), by first | rfl | (rw [h4, if_neg h5]; rfl)⟩
set_option maxHeartbeats 4000000 in
set_option maxRecDepth 1000000 in
theorem ban_nak (inn : Bool) (en mx : Int) (tg z : Bool) (len : Int) (LA : Option Addr) (m lc : Nat) (DA : Option Addr) (dn dc : Nat) (act : Int) (er : Nat) (e : Int) (A : Option Addr) (n c : Nat) (w : World) (hm : (mx == 0) = false) :
  Calls Tryz.prog 40 #[.agg (trV inn en mx tg z len (.slice LA m lc) (.slice DA dn dc) act (er : Int) false e), .agg #[.int .u8 2, .slice A n c]] w fun e' w' => Below w.heap.size w w' ∧ e' = .returned (.agg (trV inn en mx tg z len (.slice LA m lc) (.slice DA dn dc) act 0 false e)) := by
 have hb3 : ∀ a b c : Obj, Below w.heap.size w (((w.alloc a).alloc b).alloc c) := fun a b c => (((Below.refl w.heap.size w).alloc (Nat.le_refl _) a).alloc (by simp) b).alloc (by simp; omega) c
 have hi := fun o1 o2 => idleX w.heap.size inn en mx tg (.slice none 0 0) z len (.slice LA m lc) (.slice DA dn dc) act (er : Int) false e 47 _ hm (alloc3_0 w _ o1 o2)
 unfold trV at hi ⊢
 go_enter Tryz.func40, Tryz.ntmps40
 go_wp2_with fail
 refine (hi _ _).mono ?_
 rintro e' w1 ⟨rfl, rfl⟩
 clear hi
 obtain ⟨w0, hw0⟩ : ∃ w0, (((w.alloc (.cells (trV inn en mx tg z len (.slice LA m lc) (.slice DA dn dc) act (er : Int) false e) 47)).alloc (.cells #[.int .u8 2, .slice A n c] 86)).alloc (.cells (trV false 0 0 false false 0 (.slice none 0 0) (.slice none 0 0) 0 0 false 0) 47)) = w0 := ⟨_, rfl⟩
 have hX0 := alloc3_0 w (.cells (trV inn en mx tg z len (.slice LA m lc) (.slice DA dn dc) act (er : Int) false e) 47) (.cells #[.int .u8 2, .slice A n c] 86) (.cells (trV false 0 0 false false 0 (.slice none 0 0) (.slice none 0 0) 0 0 false 0) 47)
 have hX1 := alloc3_1 w (.cells (trV inn en mx tg z len (.slice LA m lc) (.slice DA dn dc) act (er : Int) false e) 47) (.cells #[.int .u8 2, .slice A n c] 86) (.cells (trV false 0 0 false false 0 (.slice none 0 0) (.slice none 0 0) 0 0 false 0) 47)
 have hX2 := alloc3_2 w (.cells (trV inn en mx tg z len (.slice LA m lc) (.slice DA dn dc) act (er : Int) false e) 47) (.cells #[.int .u8 2, .slice A n c] 86) (.cells (trV false 0 0 false false 0 (.slice none 0 0) (.slice none 0 0) 0 0 false 0) 47)
 have hb0 := hb3 (.cells (trV inn en mx tg z len (.slice LA m lc) (.slice DA dn dc) act (er : Int) false e) 47) (.cells #[.int .u8 2, .slice A n c] 86) (.cells (trV false 0 0 false false 0 (.slice none 0 0) (.slice none 0 0) 0 0 false 0) 47)
 rw [hw0] at hX0 hX1 hX2 hb0
 have hsz0 : w0.heap.size = w.heap.size + 1 + 1 + 1 := by rw [← hw0]; simp
 unfold trV at hw0 hX0 hX2
 rw [hw0]
 clear hw0 hb3
 have c4 := cell_of hX0 4
 have c10 := cell_of hX0 10
 have d0 := cell_of hX1 0
 have f10 := frozen_of hX0 10
 have hP := (Put1.refl hX0).set 10 (.int .i64 0)
 have hPh : (w0.setCell ⟨w.heap.size, 10, none⟩ (.int .i64 0)).heap[w.heap.size]? = some (.cells (trV inn en mx tg z len (.slice LA m lc) (.slice DA dn dc) act 0 false e) 47 (0, 0)) := by unfold trV; exact hP.heap
 have hPw := hP.wrote
 clear hP
 have hZ3 := (hPw.other (w.heap.size + 1 + 1) (by omega)).trans hX2
 have hY3 := (hPw.other (w.heap.size + 1) (by omega)).trans hX1
 have hs3 : (w0.setCell ⟨w.heap.size, 10, none⟩ (.int .i64 0)).heap.size = w.heap.size + 1 + 1 + 1 := hPw.size.trans hsz0
 have hb1 := hb0.trans (hPw.below (Nat.le_refl _))
 go_upto_region 9 with fail
 obtain ⟨w1, hw1⟩ : ∃ w1, w0.setCell ⟨w.heap.size, 10, none⟩ (.int .i64 0) = w1 := ⟨_, rfl⟩
 rw [hw1] at hPh hPw hZ3 hY3 hs3 hb1
 rw [hw1]
 clear hw1 hX0 hX1 hX2 c4 c10 d0 f10 hPw
 have hN := heap_alloc_new w1 (.cells #[.nilFunc] 161)
 have hbN := (Below.refl w1.heap.size w1).alloc (Nat.le_refl _) (.cells #[.nilFunc] 161)
 rw [hs3] at hN
 have hPhN := heap_below hPh hbN
 go_upto_region 10 with (guard_target =~ wpList _ _ _ (_ :: _) _ _; (refine wpList_store_row rfl (.tmp 5) (.tmp 31) 161 rfl (w.heap.size + 1 + 1 + 1) 0 161 _ _ #[.func (.func 72) #[] #[]] rfl rfl hN (by kernel_rfl) (Nat.le_refl 1) rfl rfl ?_; intro w2 hD2 hW2))
 have hT2 := (hW2.other w.heap.size (by omega)).trans hPhN
 have hY2 := (hW2.other (w.heap.size + 1) (by omega)).trans (heap_below hY3 hbN)
 have hZ2 := (hW2.other (w.heap.size + 1 + 1) (by omega)).trans (heap_below hZ3 hbN)
 have hb2 := (hb1.trans (hbN.mono (by omega))).trans (hW2.below (by omega))
 clear hW2 hN hbN hPhN hPh hZ3 hY3 hb1 hb0
 unfold trV at hT2
 have i0 := cell_of hT2 0
 have d0 := cell_of hY2 0
 have d1 := cell_of hY2 1
 have dd := cell_of hD2 0
 have fd := frozen_of hD2 0
 cases inn
 ·go_wp2_with (guard_target =~ wpList _ _ _ (_ :: _) _ _; first
   | refine wpList_load_row rfl (.tmp 2) 47 rfl w.heap.size 47 _ _ rfl hT2 Tryz.underlying47 rfl (by kernel_rfl) ?_
   | (refine wpList_store_row rfl (.tmp 4) (.tmp 51) 47 rfl (w.heap.size + 1 + 1) 0 47 _ _ (trV _ en mx tg z len (.slice LA m lc) (.slice DA dn dc) act 0 false e) rfl rfl hZ2 (by kernel_rfl) (Nat.le_refl 13) rfl rfl ?_; intro w8 hR8 hW8))
  exact ret_one _ _ _ _ rfl rfl hR8 Tryz.underlying47 rfl (by kernel_rfl) rfl ⟨hb2.trans (hW8.below (by omega)), rfl⟩
 ·have hQh := setCell_heap hD2 0 (.func (.func 73) #[] #[])
  have hQw := (Wrote.refl (w.heap.size + 1 + 1 + 1) w2).setCell 0 (.func (.func 73) #[] #[])
  go_upto_region 12 with fail
  obtain ⟨w2', hw2⟩ : ∃ w2', w2.setCell ⟨w.heap.size + 1 + 1 + 1, 0, none⟩ (.func (.func 73) #[] #[]) = w2' := ⟨_, rfl⟩
  rw [hw2] at hQh hQw
  rw [hw2]
  have hT2 := (hQw.other w.heap.size (by omega)).trans hT2
  have hY2 := (hQw.other (w.heap.size + 1) (by omega)).trans hY2
  have hZ2 := (hQw.other (w.heap.size + 1 + 1) (by omega)).trans hZ2
  have hb2 := hb2.trans (hQw.below (by omega))
  clear hw2 d0 d1 dd fd i0 hD2
  have d0 := cell_of hY2 0
  have d1 := cell_of hY2 1
  have dd := cell_of hQh 0
  clear hQh
  go_wp2_with (guard_target =~ wpList _ _ _ (_ :: _) _ _; first
   | refine wpList_load_row rfl (.tmp 2) 47 rfl w.heap.size 47 _ _ rfl hT2 Tryz.underlying47 rfl (by kernel_rfl) ?_
   | (refine wpList_store_row rfl (.tmp 4) (.tmp 51) 47 rfl (w.heap.size + 1 + 1) 0 47 _ _ (trV _ en mx tg z len (.slice LA m lc) (.slice DA dn dc) act 0 false e) rfl rfl hZ2 (by kernel_rfl) (Nat.le_refl 13) rfl rfl ?_; intro w8 hR8 hW8))
  exact ret_one _ _ _ _ rfl rfl hR8 Tryz.underlying47 rfl (by kernel_rfl) rfl ⟨hb2.trans (hW8.below (by omega)), rfl⟩
set_option maxHeartbeats 4000000 in
set_option maxRecDepth 1000000 in
theorem ban_stall (inn : Bool) (en mx : Int) (tg z : Bool) (len : Int) (LA : Option Addr) (m lc : Nat) (DA : Option Addr) (dn dc : Nat) (act : Int) (er : Nat) (e : Int) (A : Option Addr) (n c : Nat) (w : World) (hm : (mx == 0) = false) :
  Calls Tryz.prog 40 #[.agg (trV inn en mx tg z len (.slice LA m lc) (.slice DA dn dc) act (er : Int) false e), .agg #[.int .u8 3, .slice A n c]] w fun e' w' => Below w.heap.size w w' ∧ e' = .returned (.agg (trV inn en mx tg z len (.slice LA m lc) (.slice DA dn dc) act 0 true 12)) := by
 have hb3 : ∀ a b c : Obj, Below w.heap.size w (((w.alloc a).alloc b).alloc c) := fun a b c => (((Below.refl w.heap.size w).alloc (Nat.le_refl _) a).alloc (by simp) b).alloc (by simp; omega) c
 have hi := fun o1 o2 => idleX w.heap.size inn en mx tg (.slice none 0 0) z len (.slice LA m lc) (.slice DA dn dc) act (er : Int) false e 47 _ hm (alloc3_0 w _ o1 o2)
 unfold trV at hi ⊢
 go_enter Tryz.func40, Tryz.ntmps40
 go_wp2_with fail
 refine (hi _ _).mono ?_
 rintro e' w1 ⟨rfl, rfl⟩
 clear hi
 obtain ⟨w0, hw0⟩ : ∃ w0, (((w.alloc (.cells (trV inn en mx tg z len (.slice LA m lc) (.slice DA dn dc) act (er : Int) false e) 47)).alloc (.cells #[.int .u8 3, .slice A n c] 86)).alloc (.cells (trV false 0 0 false false 0 (.slice none 0 0) (.slice none 0 0) 0 0 false 0) 47)) = w0 := ⟨_, rfl⟩
 have hX0 := alloc3_0 w (.cells (trV inn en mx tg z len (.slice LA m lc) (.slice DA dn dc) act (er : Int) false e) 47) (.cells #[.int .u8 3, .slice A n c] 86) (.cells (trV false 0 0 false false 0 (.slice none 0 0) (.slice none 0 0) 0 0 false 0) 47)
 have hX1 := alloc3_1 w (.cells (trV inn en mx tg z len (.slice LA m lc) (.slice DA dn dc) act (er : Int) false e) 47) (.cells #[.int .u8 3, .slice A n c] 86) (.cells (trV false 0 0 false false 0 (.slice none 0 0) (.slice none 0 0) 0 0 false 0) 47)
 have hX2 := alloc3_2 w (.cells (trV inn en mx tg z len (.slice LA m lc) (.slice DA dn dc) act (er : Int) false e) 47) (.cells #[.int .u8 3, .slice A n c] 86) (.cells (trV false 0 0 false false 0 (.slice none 0 0) (.slice none 0 0) 0 0 false 0) 47)
 have hb0 := hb3 (.cells (trV inn en mx tg z len (.slice LA m lc) (.slice DA dn dc) act (er : Int) false e) 47) (.cells #[.int .u8 3, .slice A n c] 86) (.cells (trV false 0 0 false false 0 (.slice none 0 0) (.slice none 0 0) 0 0 false 0) 47)
 rw [hw0] at hX0 hX1 hX2 hb0
 have hsz0 : w0.heap.size = w.heap.size + 1 + 1 + 1 := by rw [← hw0]; simp
 unfold trV at hw0 hX0 hX2
 rw [hw0]
 clear hw0 hb3
 have c4 := cell_of hX0 4
 have c10 := cell_of hX0 10
 have d0 := cell_of hX1 0
 have f10 := frozen_of hX0 10
 have hP := (Put1.refl hX0).set 10 (.int .i64 0)
 have hPh : (w0.setCell ⟨w.heap.size, 10, none⟩ (.int .i64 0)).heap[w.heap.size]? = some (.cells (trV inn en mx tg z len (.slice LA m lc) (.slice DA dn dc) act 0 false e) 47 (0, 0)) := by unfold trV; exact hP.heap
 have hPw := hP.wrote
 clear hP
 have hZ3 := (hPw.other (w.heap.size + 1 + 1) (by omega)).trans hX2
 have hY3 := (hPw.other (w.heap.size + 1) (by omega)).trans hX1
 have hs3 : (w0.setCell ⟨w.heap.size, 10, none⟩ (.int .i64 0)).heap.size = w.heap.size + 1 + 1 + 1 := hPw.size.trans hsz0
 have hb1 := hb0.trans (hPw.below (Nat.le_refl _))
 go_upto_region 9 with fail
 obtain ⟨w1, hw1⟩ : ∃ w1, w0.setCell ⟨w.heap.size, 10, none⟩ (.int .i64 0) = w1 := ⟨_, rfl⟩
 rw [hw1] at hPh hPw hZ3 hY3 hs3 hb1
 rw [hw1]
 clear hw1 hX0 hX1 hX2 c4 c10 d0 f10 hPw
 have hN := heap_alloc_new w1 (.cells #[.nilFunc] 161)
 have hbN := (Below.refl w1.heap.size w1).alloc (Nat.le_refl _) (.cells #[.nilFunc] 161)
 rw [hs3] at hN
 have hPhN := heap_below hPh hbN
 go_upto_region 10 with (guard_target =~ wpList _ _ _ (_ :: _) _ _; (refine wpList_store_row rfl (.tmp 5) (.tmp 31) 161 rfl (w.heap.size + 1 + 1 + 1) 0 161 _ _ #[.func (.func 72) #[] #[]] rfl rfl hN (by kernel_rfl) (Nat.le_refl 1) rfl rfl ?_; intro w2 hD2 hW2))
 have hT2 := (hW2.other w.heap.size (by omega)).trans hPhN
 have hY2 := (hW2.other (w.heap.size + 1) (by omega)).trans (heap_below hY3 hbN)
 have hZ2 := (hW2.other (w.heap.size + 1 + 1) (by omega)).trans (heap_below hZ3 hbN)
 have hb2 := (hb1.trans (hbN.mono (by omega))).trans (hW2.below (by omega))
 clear hW2 hN hbN hPhN hPh hZ3 hY3 hb1 hb0
 unfold trV at hT2
 have i0 := cell_of hT2 0
 have d0 := cell_of hY2 0
 have d1 := cell_of hY2 1
 have dd := cell_of hD2 0
 have fd := frozen_of hD2 0
 cases inn
 ·go_wp2_with fail
  refine (end_ret w.heap.size _ en mx tg z len (.slice LA m lc) (.slice DA dn dc) act 0 false e 12 _ (by unfold trV; exact hT2)).mono ?_
  rintro e' w3 ⟨⟨v, rfl⟩, hW3, hh3⟩
  have hZ4 := (hW3.other (w.heap.size + 1 + 1) (by omega)).trans hZ2
  go_wp2_with (guard_target =~ wpList _ _ _ (_ :: _) _ _; first
   | refine wpList_load_row rfl (.tmp 2) 47 rfl w.heap.size 47 _ _ rfl hh3 Tryz.underlying47 rfl (by kernel_rfl) ?_
   | (refine wpList_store_row rfl (.tmp 4) (.tmp 51) 47 rfl (w.heap.size + 1 + 1) 0 47 _ _ (trV _ en mx tg z len (.slice LA m lc) (.slice DA dn dc) act 0 true 12) rfl rfl hZ4 (by kernel_rfl) (Nat.le_refl 13) rfl rfl ?_; intro w8 hR8 hW8))
  exact ret_one _ _ _ _ rfl rfl hR8 Tryz.underlying47 rfl (by kernel_rfl) rfl ⟨(hb2.trans (hW3.below (Nat.le_refl _))).trans (hW8.below (by omega)), rfl⟩
 ·have hQh := setCell_heap hD2 0 (.func (.func 73) #[] #[])
  have hQw := (Wrote.refl (w.heap.size + 1 + 1 + 1) w2).setCell 0 (.func (.func 73) #[] #[])
  go_upto_region 12 with fail
  obtain ⟨w2', hw2⟩ : ∃ w2', w2.setCell ⟨w.heap.size + 1 + 1 + 1, 0, none⟩ (.func (.func 73) #[] #[]) = w2' := ⟨_, rfl⟩
  rw [hw2] at hQh hQw
  rw [hw2]
  have hT2 := (hQw.other w.heap.size (by omega)).trans hT2
  have hY2 := (hQw.other (w.heap.size + 1) (by omega)).trans hY2
  have hZ2 := (hQw.other (w.heap.size + 1 + 1) (by omega)).trans hZ2
  have hb2 := hb2.trans (hQw.below (by omega))
  clear hw2 d0 d1 dd fd i0 hD2
  have d0 := cell_of hY2 0
  have d1 := cell_of hY2 1
  have dd := cell_of hQh 0
  clear hQh
  go_wp2_with fail
  refine (end_ret w.heap.size _ en mx tg z len (.slice LA m lc) (.slice DA dn dc) act 0 false e 12 _ (by unfold trV; exact hT2)).mono ?_
  rintro e' w3 ⟨⟨v, rfl⟩, hW3, hh3⟩
  have hZ4 := (hW3.other (w.heap.size + 1 + 1) (by omega)).trans hZ2
  go_wp2_with (guard_target =~ wpList _ _ _ (_ :: _) _ _; first
   | refine wpList_load_row rfl (.tmp 2) 47 rfl w.heap.size 47 _ _ rfl hh3 Tryz.underlying47 rfl (by kernel_rfl) ?_
   | (refine wpList_store_row rfl (.tmp 4) (.tmp 51) 47 rfl (w.heap.size + 1 + 1) 0 47 _ _ (trV _ en mx tg z len (.slice LA m lc) (.slice DA dn dc) act 0 true 12) rfl rfl hZ4 (by kernel_rfl) (Nat.le_refl 13) rfl rfl ?_; intro w8 hR8 hW8))
  exact ret_one _ _ _ _ rfl rfl hR8 Tryz.underlying47 rfl (by kernel_rfl) rfl ⟨(hb2.trans (hW3.below (Nat.le_refl _))).trans (hW8.below (by omega)), rfl⟩
end Go.Proofs.YtiajboiobjfcoaaGreatDoor
